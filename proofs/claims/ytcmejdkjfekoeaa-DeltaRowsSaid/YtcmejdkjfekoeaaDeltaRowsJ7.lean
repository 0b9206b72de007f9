/- Part of the proof of DeltaRows: lemmas. -/
import Derived.Test.YtcmejdkjfekoeaaDeltaRowsJ2
import Derived.Test.YtcmejdkjfekoeaaDeltaRowsJ4
import Derived.Test.YtcmejdkjfekoeaaDeltaRowsJ6
set_option linter.unusedVariables false
set_option linter.unusedSimpArgs false
namespace Go.Proofs.Ytcmejdkjfekoeaa
open Go.Pl Go.Bag
set_option maxHeartbeats 32000000
set_option maxRecDepth 100000
theorem C_dJoin (m : Int) (a b : Delta) (ha : inD 400000 a) (hb : inD 400000 b) : PCallG Try.prog 69 [.c (.int .i64 m), .c (encDelta a), .c (encDelta b)] (.c (dV (joinD m a b))) [] := by
  have c1 := C_dGood m a (inD_to ha (by omega))
  have c2 := C_dGood m b (inD_to hb (by omega))
  have hz : ¬ (goodD m a = true ∧ goodD m b = true ∧ joks m a b) → joinD m a b = (zeroD, false) := fun h => by unfold joinD; rw [if_neg h]
  have hj := @joinD_eq m a b
  obtain ⟨n, s0, s1, i0, i1, o0, o1⟩ := a
  obtain ⟨k, t0, t1, j0, j1, q0, q1⟩ := b
  obtain ⟨hn, hs0, hs1, ⟨ri0, li0⟩, ⟨ri1, li1⟩, ⟨ro0, lo0⟩, ⟨ro1, lo1⟩⟩ := ha
  obtain ⟨hk, ht0, ht1, ⟨rj0, lj0⟩, ⟨rj1, lj1⟩, ⟨rq0, lq0⟩, ⟨rq1, lq1⟩⟩ := hb
  simp only at hn hs0 hs1 ri0 li0 ri1 li1 ro0 lo0 ro1 lo1 hk ht0 ht1 rj0 lj0 rj1 lj1 rq0 lq0 rq1 lq1
  have cA3 := C_Join i0 j0 (by omega) (by omega)
  have cA4 := C_Join o0 q0 (by omega) (by omega)
  have cA5 := C_Add s0 t0 hs0 ht0
  have cB3 := C_Join i1 j1 (by omega) (by omega)
  have cB4 := C_Join o1 q1 (by omega) (by omega)
  have cB5 := C_Add s1 t1 hs1 ht1
  show PCallG _ 69 [.c (.int .i64 m), .c (.agg [.int .i64 n, .int .i64 s0, .int .i64 s1, encL i0, encL i1, encL o0, encL o1]), .c (.agg [.int .i64 k, .int .i64 t0, .int .i64 t1, encL j0, encL j1, encL q0, encL q1])] _ _
  unfold encDelta encD at c1 c2
  refine pcallF Try.func69 c69 rfl ?_
  unfold p69 r69_0 r69_1 r69_2 r69_3 r69_4 r69_15 r69_16 r69_17
  cases ga : goodD m ⟨n, s0, s1, i0, i1, o0, o1⟩ with
  | false =>
    rw [ga] at c1
    rw [hz (fun h => by rw [ga] at h; cases h.1)]
    repeat' (first | refine call2 rfl rfl c1 ?_ | refine w_seq ?_ | refine w_ops ?_ | refine st_nil ?_ | refine th_n ?_ | refine th_r ?_ | refine w_ret ?_ | refine w_true rfl ?_ | refine g_no rfl ?_ | refine mv_c rfl ?_ | refine pick_t rfl rfl ?_ | refine not_ rfl ?_ | refine alloc_ (fun u => ?_) | refine box_ rfl rfl rfl (fun u => ?_) | refine build_ rfl rfl ?_ | refine load_ptr rfl (by decide) rfl (Nat.le_of_ble_eq_true rfl) rfl ?_ | refine store_ptr rfl rfl (by decide) rfl rfl (Nat.le_of_ble_eq_true rfl) rfl ?_)
    exact fin_r (rv_cell rfl rfl rfl rfl (rv_t rfl rv_nil)) rfl
  | true =>
    rw [ga] at c1
    cases gb : goodD m ⟨k, t0, t1, j0, j1, q0, q1⟩ with
    | false =>
      rw [gb] at c2
      rw [hz (fun h => by rw [gb] at h; cases h.2.1)]
      repeat' (first | refine call2 rfl rfl c1 ?_ | refine call2 rfl rfl c2 ?_ | refine w_seq ?_ | refine w_ops ?_ | refine st_nil ?_ | refine th_n ?_ | refine th_r ?_ | refine w_ret ?_ | refine w_true rfl ?_ | refine g_yes rfl ?_ | refine mv_c rfl ?_ | refine pick_f rfl rfl ?_ | refine not_ rfl ?_ | refine alloc_ (fun u => ?_) | refine box_ rfl rfl rfl (fun u => ?_) | refine build_ rfl rfl ?_ | refine load_ptr rfl (by decide) rfl (Nat.le_of_ble_eq_true rfl) rfl ?_ | refine store_ptr rfl rfl (by decide) rfl rfl (Nat.le_of_ble_eq_true rfl) rfl ?_)
      exact fin_r (rv_cell rfl rfl rfl rfl (rv_t rfl rv_nil)) rfl
    | true =>
      rw [gb] at c2
      obtain ⟨hm, hnn, d1, d2⟩ := goodD_iff.mp ga
      obtain ⟨_, hkk, e1, e2⟩ := goodD_iff.mp gb
      simp only at hnn hkk d2 e2
      have hno : ∀ {p : Prop}, (joks m ⟨n, s0, s1, i0, i1, o0, o1⟩ ⟨k, t0, t1, j0, j1, q0, q1⟩ → p) → ¬ p → joinD m ⟨n, s0, s1, i0, i1, o0, o1⟩ ⟨k, t0, t1, j0, j1, q0, q1⟩ = (zeroD, false) := fun h hp => hz fun k => hp (h k.2.2)
      have hnf : ∀ {p : Prop}, ((in64 (s0 + t0) ∧ (m = 2 → in64 (s1 + t1))) → p) → ¬ p → joinD m ⟨n, s0, s1, i0, i1, o0, o1⟩ ⟨k, t0, t1, j0, j1, q0, q1⟩ = (zeroD, false) := fun h hp => by
        by_cases hjk : joks m ⟨n, s0, s1, i0, i1, o0, o1⟩ ⟨k, t0, t1, j0, j1, q0, q1⟩
        · rw [hj ga gb hjk]; exact if_neg fun q => hp (h ⟨q.1, q.2.1⟩)
        · exact hz fun q => hjk q.2.2
      repeat' (first | refine call2 rfl rfl c1 ?_ | refine call2 rfl rfl c2 ?_ | refine w_seq ?_ | refine w_ops ?_ | refine st_nil ?_ | refine th_n ?_ | refine w_block ?_ | refine w_skip ?_ | refine w_false rfl ?_ | refine g_yes rfl ?_ | refine mv_c rfl ?_ | refine pick_f rfl rfl ?_ | refine not_ rfl ?_ | refine add_in rfl rfl (by omega) ?_ | refine alloc_ (fun u => ?_) | refine box_ rfl rfl rfl (fun u => ?_) | refine build_ rfl rfl ?_ | refine load_ptr rfl (by decide) rfl (Nat.le_of_ble_eq_true rfl) rfl ?_ | refine store_ptr rfl rfl (by decide) rfl rfl (Nat.le_of_ble_eq_true rfl) rfl ?_ | refine fad_ptr rfl rfl rfl ?_)
      refine w_loop ?_
      unfold b69_0 r69_5 r69_6 r69_7 r69_8 r69_9 r69_10 r69_11 r69_12 r69_13 r69_14
      cases hA3 : (join i0 j0).2 with
      | false =>
        rw [hA3] at cA3
        rw [hno (fun h => h.1) (by rw [hA3]; simp)]
        by_cases fA : I64 (s0 + t0)
        · rw [if_pos fA] at cA5
          repeat' (first | refine call2 rfl rfl cA3 ?_ | refine call2 rfl rfl cA4 ?_ | refine call2 rfl rfl cA5 ?_ | refine w_seq ?_ | refine w_ops ?_ | refine w_opsD0 rfl ?_ | refine st_nil ?_ | refine th_n ?_ | refine th_r ?_ | refine bk_r ?_ | refine w_block ?_ | refine w_skip ?_ | refine w_ret ?_ | refine w_true rfl ?_ | refine g_no rfl ?_ | refine mv_c rfl ?_ | refine pick_t rfl rfl ?_ | refine lss_t rfl rfl (by omega) ?_ | refine not_ rfl ?_ | refine build_ rfl rfl ?_ | refine load_ptr rfl (by decide) rfl (Nat.le_of_ble_eq_true rfl) rfl ?_ | refine store_ptr rfl rfl (by decide) rfl rfl (Nat.le_of_ble_eq_true rfl) rfl ?_ | refine fad_ptr rfl rfl rfl ?_ | refine iaA_ptr rfl rfl rfl (by omega) rfl ?_ | refine ext_ rfl rfl ?_)
          exact fin_r (rv_cell rfl rfl rfl rfl (rv_t rfl rv_nil)) rfl
        · rw [if_neg fA] at cA5
          repeat' (first | refine call2 rfl rfl cA3 ?_ | refine call2 rfl rfl cA4 ?_ | refine call2 rfl rfl cA5 ?_ | refine w_seq ?_ | refine w_ops ?_ | refine w_opsD0 rfl ?_ | refine st_nil ?_ | refine th_n ?_ | refine th_r ?_ | refine bk_r ?_ | refine w_block ?_ | refine w_skip ?_ | refine w_ret ?_ | refine w_true rfl ?_ | refine g_no rfl ?_ | refine mv_c rfl ?_ | refine pick_t rfl rfl ?_ | refine lss_t rfl rfl (by omega) ?_ | refine not_ rfl ?_ | refine build_ rfl rfl ?_ | refine load_ptr rfl (by decide) rfl (Nat.le_of_ble_eq_true rfl) rfl ?_ | refine store_ptr rfl rfl (by decide) rfl rfl (Nat.le_of_ble_eq_true rfl) rfl ?_ | refine fad_ptr rfl rfl rfl ?_ | refine iaA_ptr rfl rfl rfl (by omega) rfl ?_ | refine ext_ rfl rfl ?_)
          exact fin_r (rv_cell rfl rfl rfl rfl (rv_t rfl rv_nil)) rfl
      | true =>
        rw [hA3] at cA3
        cases hA4 : (join o0 q0).2 with
        | false =>
          rw [hA4] at cA4
          rw [hno (fun h => h.2.1) (by rw [hA4]; simp)]
          by_cases fA : I64 (s0 + t0)
          · rw [if_pos fA] at cA5
            repeat' (first | refine call2 rfl rfl cA3 ?_ | refine call2 rfl rfl cA4 ?_ | refine call2 rfl rfl cA5 ?_ | refine w_seq ?_ | refine w_ops ?_ | refine w_opsD0 rfl ?_ | refine st_nil ?_ | refine th_n ?_ | refine th_r ?_ | refine bk_r ?_ | refine w_block ?_ | refine w_skip ?_ | refine w_ret ?_ | refine w_true rfl ?_ | refine g_yes rfl ?_ | refine g_no rfl ?_ | refine mv_c rfl ?_ | refine pick_t rfl rfl ?_ | refine pick_f rfl rfl ?_ | refine lss_t rfl rfl (by omega) ?_ | refine not_ rfl ?_ | refine build_ rfl rfl ?_ | refine load_ptr rfl (by decide) rfl (Nat.le_of_ble_eq_true rfl) rfl ?_ | refine store_ptr rfl rfl (by decide) rfl rfl (Nat.le_of_ble_eq_true rfl) rfl ?_ | refine fad_ptr rfl rfl rfl ?_ | refine iaA_ptr rfl rfl rfl (by omega) rfl ?_ | refine ext_ rfl rfl ?_)
            exact fin_r (rv_cell rfl rfl rfl rfl (rv_t rfl rv_nil)) rfl
          · rw [if_neg fA] at cA5
            repeat' (first | refine call2 rfl rfl cA3 ?_ | refine call2 rfl rfl cA4 ?_ | refine call2 rfl rfl cA5 ?_ | refine w_seq ?_ | refine w_ops ?_ | refine w_opsD0 rfl ?_ | refine st_nil ?_ | refine th_n ?_ | refine th_r ?_ | refine bk_r ?_ | refine w_block ?_ | refine w_skip ?_ | refine w_ret ?_ | refine w_true rfl ?_ | refine g_yes rfl ?_ | refine g_no rfl ?_ | refine mv_c rfl ?_ | refine pick_t rfl rfl ?_ | refine pick_f rfl rfl ?_ | refine lss_t rfl rfl (by omega) ?_ | refine not_ rfl ?_ | refine build_ rfl rfl ?_ | refine load_ptr rfl (by decide) rfl (Nat.le_of_ble_eq_true rfl) rfl ?_ | refine store_ptr rfl rfl (by decide) rfl rfl (Nat.le_of_ble_eq_true rfl) rfl ?_ | refine fad_ptr rfl rfl rfl ?_ | refine iaA_ptr rfl rfl rfl (by omega) rfl ?_ | refine ext_ rfl rfl ?_)
            exact fin_r (rv_cell rfl rfl rfl rfl (rv_t rfl rv_nil)) rfl
        | true =>
          rw [hA4] at cA4
          have uA := join_is hA3
          have wA := join_is hA4
          have lnA := joinLen i0 j0
          have lmA := joinLen o0 q0
          have cA6 := C_part (join i0 j0).1 (join o0 q0).1 (by omega) (by omega) uA.2.2.2.1 wA.2.2.2.1
          by_cases fA : I64 (s0 + t0)
          · rw [if_pos fA] at cA5
            by_cases hm2 : m = 2
            · rw [if_pos hm2] at d2 e2
              repeat' (first | refine call2 rfl rfl cA3 ?_ | refine call2 rfl rfl cA4 ?_ | refine call2 rfl rfl cA5 ?_ | refine call2 rfl rfl cA6 ?_ | refine w_seq ?_ | refine w_ops ?_ | refine w_opsD0 rfl ?_ | refine st_nil ?_ | refine th_n ?_ | refine bk_n ?_ | refine w_block ?_ | refine w_skip ?_ | refine w_true rfl ?_ | refine w_false rfl ?_ | refine g_yes rfl ?_ | refine mv_c rfl ?_ | refine pick_f rfl rfl ?_ | refine lss_t rfl rfl (by omega) ?_ | refine not_ rfl ?_ | refine add_in rfl rfl (by omega) ?_ | refine load_ptr rfl (by decide) rfl (Nat.le_of_ble_eq_true rfl) rfl ?_ | refine store_ptr rfl rfl (by decide) rfl rfl (Nat.le_of_ble_eq_true rfl) rfl ?_ | refine fad_ptr rfl rfl rfl ?_ | refine iaA_ptr rfl rfl rfl (by omega) rfl ?_ | refine ext_ rfl rfl ?_)
              refine w_loop ?_
              cases hB3 : (join i1 j1).2 with
              | false =>
                rw [hB3] at cB3
                rw [hno (fun h => (h.2.2 hm2).1) (by rw [hB3]; simp)]
                by_cases fB : I64 (s1 + t1)
                · rw [if_pos fB] at cB5
                  repeat' (first | refine call2 rfl rfl cB3 ?_ | refine call2 rfl rfl cB4 ?_ | refine call2 rfl rfl cB5 ?_ | refine w_seq ?_ | refine w_ops ?_ | refine w_opsD0 rfl ?_ | refine st_nil ?_ | refine th_n ?_ | refine th_r ?_ | refine bk_r ?_ | refine w_block ?_ | refine w_skip ?_ | refine w_ret ?_ | refine w_true rfl ?_ | refine g_no rfl ?_ | refine mv_c rfl ?_ | refine pick_t rfl rfl ?_ | refine lss_t rfl rfl (by omega) ?_ | refine not_ rfl ?_ | refine build_ rfl rfl ?_ | refine load_ptr rfl (by decide) rfl (Nat.le_of_ble_eq_true rfl) rfl ?_ | refine store_ptr rfl rfl (by decide) rfl rfl (Nat.le_of_ble_eq_true rfl) rfl ?_ | refine fad_ptr rfl rfl rfl ?_ | refine iaA_ptr rfl rfl rfl (by omega) rfl ?_ | refine ext_ rfl rfl ?_)
                  exact fin_r (rv_cell rfl rfl rfl rfl (rv_t rfl rv_nil)) rfl
                · rw [if_neg fB] at cB5
                  repeat' (first | refine call2 rfl rfl cB3 ?_ | refine call2 rfl rfl cB4 ?_ | refine call2 rfl rfl cB5 ?_ | refine w_seq ?_ | refine w_ops ?_ | refine w_opsD0 rfl ?_ | refine st_nil ?_ | refine th_n ?_ | refine th_r ?_ | refine bk_r ?_ | refine w_block ?_ | refine w_skip ?_ | refine w_ret ?_ | refine w_true rfl ?_ | refine g_no rfl ?_ | refine mv_c rfl ?_ | refine pick_t rfl rfl ?_ | refine lss_t rfl rfl (by omega) ?_ | refine not_ rfl ?_ | refine build_ rfl rfl ?_ | refine load_ptr rfl (by decide) rfl (Nat.le_of_ble_eq_true rfl) rfl ?_ | refine store_ptr rfl rfl (by decide) rfl rfl (Nat.le_of_ble_eq_true rfl) rfl ?_ | refine fad_ptr rfl rfl rfl ?_ | refine iaA_ptr rfl rfl rfl (by omega) rfl ?_ | refine ext_ rfl rfl ?_)
                  exact fin_r (rv_cell rfl rfl rfl rfl (rv_t rfl rv_nil)) rfl
              | true =>
                rw [hB3] at cB3
                cases hB4 : (join o1 q1).2 with
                | false =>
                  rw [hB4] at cB4
                  rw [hno (fun h => (h.2.2 hm2).2) (by rw [hB4]; simp)]
                  by_cases fB : I64 (s1 + t1)
                  · rw [if_pos fB] at cB5
                    repeat' (first | refine call2 rfl rfl cB3 ?_ | refine call2 rfl rfl cB4 ?_ | refine call2 rfl rfl cB5 ?_ | refine w_seq ?_ | refine w_ops ?_ | refine w_opsD0 rfl ?_ | refine st_nil ?_ | refine th_n ?_ | refine th_r ?_ | refine bk_r ?_ | refine w_block ?_ | refine w_skip ?_ | refine w_ret ?_ | refine w_true rfl ?_ | refine g_yes rfl ?_ | refine g_no rfl ?_ | refine mv_c rfl ?_ | refine pick_t rfl rfl ?_ | refine pick_f rfl rfl ?_ | refine lss_t rfl rfl (by omega) ?_ | refine not_ rfl ?_ | refine build_ rfl rfl ?_ | refine load_ptr rfl (by decide) rfl (Nat.le_of_ble_eq_true rfl) rfl ?_ | refine store_ptr rfl rfl (by decide) rfl rfl (Nat.le_of_ble_eq_true rfl) rfl ?_ | refine fad_ptr rfl rfl rfl ?_ | refine iaA_ptr rfl rfl rfl (by omega) rfl ?_ | refine ext_ rfl rfl ?_)
                    exact fin_r (rv_cell rfl rfl rfl rfl (rv_t rfl rv_nil)) rfl
                  · rw [if_neg fB] at cB5
                    repeat' (first | refine call2 rfl rfl cB3 ?_ | refine call2 rfl rfl cB4 ?_ | refine call2 rfl rfl cB5 ?_ | refine w_seq ?_ | refine w_ops ?_ | refine w_opsD0 rfl ?_ | refine st_nil ?_ | refine th_n ?_ | refine th_r ?_ | refine bk_r ?_ | refine w_block ?_ | refine w_skip ?_ | refine w_ret ?_ | refine w_true rfl ?_ | refine g_yes rfl ?_ | refine g_no rfl ?_ | refine mv_c rfl ?_ | refine pick_t rfl rfl ?_ | refine pick_f rfl rfl ?_ | refine lss_t rfl rfl (by omega) ?_ | refine not_ rfl ?_ | refine build_ rfl rfl ?_ | refine load_ptr rfl (by decide) rfl (Nat.le_of_ble_eq_true rfl) rfl ?_ | refine store_ptr rfl rfl (by decide) rfl rfl (Nat.le_of_ble_eq_true rfl) rfl ?_ | refine fad_ptr rfl rfl rfl ?_ | refine iaA_ptr rfl rfl rfl (by omega) rfl ?_ | refine ext_ rfl rfl ?_)
                    exact fin_r (rv_cell rfl rfl rfl rfl (rv_t rfl rv_nil)) rfl
                | true =>
                  rw [hB4] at cB4
                  have uB := join_is hB3
                  have wB := join_is hB4
                  have lnB := joinLen i1 j1
                  have lmB := joinLen o1 q1
                  have cB6 := C_part (join i1 j1).1 (join o1 q1).1 (by omega) (by omega) uB.2.2.2.1 wB.2.2.2.1
                  by_cases fB : I64 (s1 + t1)
                  · rw [if_pos fB] at cB5
                    have e := joinD_eq (m := m) ga gb ⟨hA3, hA4, fun _ => ⟨hB3, hB4⟩⟩
                    simp only [keD, if_pos hm2] at e
                    have hin : inD 1000000 ⟨n + k, s0 + t0, s1 + t1, cut (join o0 q0).1 (join i0 j0).1, cut (join o1 q1).1 (join i1 j1).1, cut (join i0 j0).1 (join o0 q0).1, cut (join i1 j1).1 (join o1 q1).1⟩ := ⟨⟨by show -9223372036854775808 ≤ n + k; omega, by show n + k ≤ 9223372036854775807; omega⟩, fA, fB, inB_mono (inB_cut uA.2.2.2.1 wA.2.2.2.1 (inB_join ⟨ri0, li0⟩ ⟨rj0, lj0⟩)) (by omega), inB_mono (inB_cut uB.2.2.2.1 wB.2.2.2.1 (inB_join ⟨ri1, li1⟩ ⟨rj1, lj1⟩)) (by omega), inB_mono (inB_cut wA.2.2.2.1 uA.2.2.2.1 (inB_join ⟨ro0, lo0⟩ ⟨rq0, lq0⟩)) (by omega), inB_mono (inB_cut wB.2.2.2.1 uB.2.2.2.1 (inB_join ⟨ro1, lo1⟩ ⟨rq1, lq1⟩)) (by omega)⟩
                    have c7 := C_dGood m _ hin
                    unfold encDelta encD at c7
                    rw [e]
                    generalize goodD m ⟨n + k, s0 + t0, s1 + t1, cut (join o0 q0).1 (join i0 j0).1, cut (join o1 q1).1 (join i1 j1).1, cut (join i0 j0).1 (join o0 q0).1, cut (join i1 j1).1 (join o1 q1).1⟩ = g at c7
                    generalize cut (join o0 q0).1 (join i0 j0).1 = z0 at *
                    generalize cut (join o1 q1).1 (join i1 j1).1 = z1 at *
                    generalize cut (join i0 j0).1 (join o0 q0).1 = z2 at *
                    generalize cut (join i1 j1).1 (join o1 q1).1 = z3 at *
                    repeat' (first | refine call2 rfl rfl cB3 ?_ | refine call2 rfl rfl cB4 ?_ | refine call2 rfl rfl cB5 ?_ | refine call2 rfl rfl cB6 ?_ | refine w_seq ?_ | refine w_ops ?_ | refine w_opsD0 rfl ?_ | refine st_nil ?_ | refine th_n ?_ | refine bk_n ?_ | refine w_block ?_ | refine w_skip ?_ | refine w_true rfl ?_ | refine w_false rfl ?_ | refine g_yes rfl ?_ | refine mv_c rfl ?_ | refine pick_f rfl rfl ?_ | refine lss_t rfl rfl (by omega) ?_ | refine not_ rfl ?_ | refine add_in rfl rfl (by omega) ?_ | refine load_ptr rfl (by decide) rfl (Nat.le_of_ble_eq_true rfl) rfl ?_ | refine store_ptr rfl rfl (by decide) rfl rfl (Nat.le_of_ble_eq_true rfl) rfl ?_ | refine fad_ptr rfl rfl rfl ?_ | refine iaA_ptr rfl rfl rfl (by omega) rfl ?_ | refine ext_ rfl rfl ?_)
                    refine w_loop ?_
                    cases g with
                    | false =>
                      rw [if_neg (fun h => by cases h.2.2)]
                      repeat' (first | refine call2 rfl rfl c7 ?_ | refine w_seq ?_ | refine w_ops ?_ | refine st_nil ?_ | refine th_n ?_ | refine th_x ?_ | refine th_r ?_ | refine bk_x ?_ | refine w_exit ?_ | refine w_ret ?_ | refine w_true rfl ?_ | refine w_false rfl ?_ | refine mv_c rfl ?_ | refine lss_f rfl rfl (by omega) ?_ | refine not_ rfl ?_ | refine build_ rfl rfl ?_ | refine load_ptr rfl (by decide) rfl (Nat.le_of_ble_eq_true rfl) rfl ?_ | refine store_ptr rfl rfl (by decide) rfl rfl (Nat.le_of_ble_eq_true rfl) rfl ?_)
                      exact fin_r (rv_cell rfl rfl rfl rfl (rv_t rfl rv_nil)) rfl
                    | true =>
                      rw [if_pos ⟨fA, fun _ => fB, rfl⟩]
                      repeat' (first | refine call2 rfl rfl c7 ?_ | refine w_seq ?_ | refine w_ops ?_ | refine st_nil ?_ | refine th_n ?_ | refine th_x ?_ | refine bk_x ?_ | refine w_skip ?_ | refine w_exit ?_ | refine w_ret ?_ | refine w_false rfl ?_ | refine mv_c rfl ?_ | refine lss_f rfl rfl (by omega) ?_ | refine not_ rfl ?_ | refine load_ptr rfl (by decide) rfl (Nat.le_of_ble_eq_true rfl) rfl ?_ | refine store_ptr rfl rfl (by decide) rfl rfl (Nat.le_of_ble_eq_true rfl) rfl ?_)
                      exact fin_r (rv_cell rfl rfl rfl rfl (rv_t rfl rv_nil)) rfl
                  · rw [if_neg fB] at cB5
                    rw [hnf (fun h => h.2 hm2) fB]
                    repeat' (first | refine call2 rfl rfl cB3 ?_ | refine call2 rfl rfl cB4 ?_ | refine call2 rfl rfl cB5 ?_ | refine w_seq ?_ | refine w_ops ?_ | refine w_opsD0 rfl ?_ | refine st_nil ?_ | refine th_n ?_ | refine th_r ?_ | refine bk_r ?_ | refine w_block ?_ | refine w_skip ?_ | refine w_ret ?_ | refine w_true rfl ?_ | refine g_yes rfl ?_ | refine mv_c rfl ?_ | refine pick_f rfl rfl ?_ | refine lss_t rfl rfl (by omega) ?_ | refine not_ rfl ?_ | refine build_ rfl rfl ?_ | refine load_ptr rfl (by decide) rfl (Nat.le_of_ble_eq_true rfl) rfl ?_ | refine store_ptr rfl rfl (by decide) rfl rfl (Nat.le_of_ble_eq_true rfl) rfl ?_ | refine fad_ptr rfl rfl rfl ?_ | refine iaA_ptr rfl rfl rfl (by omega) rfl ?_ | refine ext_ rfl rfl ?_)
                    exact fin_r (rv_cell rfl rfl rfl rfl (rv_t rfl rv_nil)) rfl
            · have e := joinD_eq (m := m) ga gb ⟨hA3, hA4, fun h => absurd h hm2⟩
              simp only [keD, if_neg hm2] at e
              have hin : inD 1000000 ⟨n + k, s0 + t0, 0, cut (join o0 q0).1 (join i0 j0).1, [], cut (join i0 j0).1 (join o0 q0).1, []⟩ := ⟨⟨by show -9223372036854775808 ≤ n + k; omega, by show n + k ≤ 9223372036854775807; omega⟩, fA, (by decide : in64 0), inB_mono (inB_cut uA.2.2.2.1 wA.2.2.2.1 (inB_join ⟨ri0, li0⟩ ⟨rj0, lj0⟩)) (by omega), inB_nil _, inB_mono (inB_cut wA.2.2.2.1 uA.2.2.2.1 (inB_join ⟨ro0, lo0⟩ ⟨rq0, lq0⟩)) (by omega), inB_nil _⟩
              have c7 := C_dGood m _ hin
              unfold encDelta encD at c7
              rw [e]
              generalize goodD m ⟨n + k, s0 + t0, 0, cut (join o0 q0).1 (join i0 j0).1, [], cut (join i0 j0).1 (join o0 q0).1, []⟩ = g at c7
              generalize cut (join o0 q0).1 (join i0 j0).1 = z0 at *
              generalize cut (join i0 j0).1 (join o0 q0).1 = z2 at *
              repeat' (first | refine call2 rfl rfl cA3 ?_ | refine call2 rfl rfl cA4 ?_ | refine call2 rfl rfl cA5 ?_ | refine call2 rfl rfl cA6 ?_ | refine w_seq ?_ | refine w_ops ?_ | refine w_opsD0 rfl ?_ | refine st_nil ?_ | refine th_n ?_ | refine bk_n ?_ | refine w_block ?_ | refine w_skip ?_ | refine w_true rfl ?_ | refine w_false rfl ?_ | refine g_yes rfl ?_ | refine mv_c rfl ?_ | refine pick_f rfl rfl ?_ | refine lss_t rfl rfl (by omega) ?_ | refine not_ rfl ?_ | refine add_in rfl rfl (by omega) ?_ | refine load_ptr rfl (by decide) rfl (Nat.le_of_ble_eq_true rfl) rfl ?_ | refine store_ptr rfl rfl (by decide) rfl rfl (Nat.le_of_ble_eq_true rfl) rfl ?_ | refine fad_ptr rfl rfl rfl ?_ | refine iaA_ptr rfl rfl rfl (by omega) rfl ?_ | refine ext_ rfl rfl ?_)
              refine w_loop ?_
              cases g with
              | false =>
                rw [if_neg (fun h => by cases h.2.2)]
                repeat' (first | refine call2 rfl rfl c7 ?_ | refine w_seq ?_ | refine w_ops ?_ | refine st_nil ?_ | refine th_n ?_ | refine th_x ?_ | refine th_r ?_ | refine bk_x ?_ | refine w_exit ?_ | refine w_ret ?_ | refine w_true rfl ?_ | refine w_false rfl ?_ | refine mv_c rfl ?_ | refine lss_f rfl rfl (by omega) ?_ | refine not_ rfl ?_ | refine build_ rfl rfl ?_ | refine load_ptr rfl (by decide) rfl (Nat.le_of_ble_eq_true rfl) rfl ?_ | refine store_ptr rfl rfl (by decide) rfl rfl (Nat.le_of_ble_eq_true rfl) rfl ?_)
                exact fin_r (rv_cell rfl rfl rfl rfl (rv_t rfl rv_nil)) rfl
              | true =>
                rw [if_pos ⟨fA, fun h => absurd h hm2, rfl⟩]
                repeat' (first | refine call2 rfl rfl c7 ?_ | refine w_seq ?_ | refine w_ops ?_ | refine st_nil ?_ | refine th_n ?_ | refine th_x ?_ | refine bk_x ?_ | refine w_skip ?_ | refine w_exit ?_ | refine w_ret ?_ | refine w_false rfl ?_ | refine mv_c rfl ?_ | refine lss_f rfl rfl (by omega) ?_ | refine not_ rfl ?_ | refine load_ptr rfl (by decide) rfl (Nat.le_of_ble_eq_true rfl) rfl ?_ | refine store_ptr rfl rfl (by decide) rfl rfl (Nat.le_of_ble_eq_true rfl) rfl ?_)
                exact fin_r (rv_cell rfl rfl rfl rfl (rv_t rfl rv_nil)) rfl
          · rw [if_neg fA] at cA5
            rw [hnf (fun h => h.1) fA]
            repeat' (first | refine call2 rfl rfl cA3 ?_ | refine call2 rfl rfl cA4 ?_ | refine call2 rfl rfl cA5 ?_ | refine w_seq ?_ | refine w_ops ?_ | refine w_opsD0 rfl ?_ | refine st_nil ?_ | refine th_n ?_ | refine th_r ?_ | refine bk_r ?_ | refine w_block ?_ | refine w_skip ?_ | refine w_ret ?_ | refine w_true rfl ?_ | refine g_yes rfl ?_ | refine mv_c rfl ?_ | refine pick_f rfl rfl ?_ | refine lss_t rfl rfl (by omega) ?_ | refine not_ rfl ?_ | refine build_ rfl rfl ?_ | refine load_ptr rfl (by decide) rfl (Nat.le_of_ble_eq_true rfl) rfl ?_ | refine store_ptr rfl rfl (by decide) rfl rfl (Nat.le_of_ble_eq_true rfl) rfl ?_ | refine fad_ptr rfl rfl rfl ?_ | refine iaA_ptr rfl rfl rfl (by omega) rfl ?_ | refine ext_ rfl rfl ?_)
            exact fin_r (rv_cell rfl rfl rfl rfl (rv_t rfl rv_nil)) rfl
theorem C_dNeg (m : Int) (d : Delta) (hd : inD 1000000 d) : PCallG Try.prog 63 [.c (.int .i64 m), .c (encDelta d)] (.c (dV (negD m d))) [] := by
  have c1 := C_dGood m d hd
  have hz : goodD m d = false → negD m d = (zeroD, false) := fun h => by unfold negD; rw [h]; rfl
  have hj := @negD_is m d
  obtain ⟨n, s0, s1, i0, i1, o0, o1⟩ := d
  obtain ⟨hn, hs0, hs1, ⟨ri0, li0⟩, ⟨ri1, li1⟩, ⟨ro0, lo0⟩, ⟨ro1, lo1⟩⟩ := hd
  simp only at hn hs0 hs1 ri0 li0 ri1 li1 ro0 lo0 ro1 lo1
  have c2 := C_calcNeg s0 hs0
  have c3 := C_calcNeg s1 hs1
  show PCallG _ 63 [.c (.int .i64 m), .c (.agg [.int .i64 n, .int .i64 s0, .int .i64 s1, encL i0, encL i1, encL o0, encL o1])] _ _
  unfold encDelta encD at c1
  refine pcallF Try.func63 c63 rfl ?_
  unfold p63 r63_0 r63_1 r63_2 r63_3 r63_4 r63_12
  cases ga : goodD m ⟨n, s0, s1, i0, i1, o0, o1⟩ with
  | false =>
    rw [ga] at c1
    rw [hz ga]
    repeat' (first | refine call2 rfl rfl c1 ?_ | refine w_seq ?_ | refine w_ops ?_ | refine st_nil ?_ | refine th_n ?_ | refine th_r ?_ | refine w_ret ?_ | refine w_true rfl ?_ | refine mv_c rfl ?_ | refine not_ rfl ?_ | refine alloc_ (fun u => ?_) | refine box_ rfl rfl rfl (fun u => ?_) | refine build_ rfl rfl ?_ | refine load_ptr rfl (by decide) rfl (Nat.le_of_ble_eq_true rfl) rfl ?_ | refine store_ptr rfl rfl (by decide) rfl rfl (Nat.le_of_ble_eq_true rfl) rfl ?_)
    exact fin_r (rv_cell rfl rfl rfl rfl (rv_t rfl rv_nil)) rfl
  | true =>
    rw [ga] at c1
    obtain ⟨hm, hnn, d1, d2⟩ := goodD_iff.mp ga
    obtain ⟨a1, a2, _⟩ := mD_iff.mp d1
    simp only at hnn d2 a1 a2
    have c4 := C_own i0 (by omega) a1
    have c5 := C_own o0 (by omega) a2
    rw [hj ga]
    simp only [negX]
    by_cases f0 : I64 (-s0)
    · rw [if_pos f0] at c2
      repeat' (first | refine call2 rfl rfl c1 ?_ | refine w_seq ?_ | refine w_ops ?_ | refine st_nil ?_ | refine th_n ?_ | refine w_block ?_ | refine w_skip ?_ | refine w_false rfl ?_ | refine mv_c rfl ?_ | refine not_ rfl ?_ | refine neg_in rfl (by omega) ?_ | refine alloc_ (fun u => ?_) | refine box_ rfl rfl rfl (fun u => ?_) | refine build_ rfl rfl ?_ | refine load_ptr rfl (by decide) rfl (Nat.le_of_ble_eq_true rfl) rfl ?_ | refine store_ptr rfl rfl (by decide) rfl rfl (Nat.le_of_ble_eq_true rfl) rfl ?_ | refine fad_ptr rfl rfl rfl ?_)
      refine w_loop ?_
      unfold b63_0 r63_5 r63_6 r63_7 r63_8 r63_9 r63_10 r63_11
      repeat' (first | refine call1 rfl c2 ?_ | refine call1 rfl c4 ?_ | refine call1 rfl c5 ?_ | refine w_seq ?_ | refine w_ops ?_ | refine w_opsD0 rfl ?_ | refine st_nil ?_ | refine th_n ?_ | refine bk_n ?_ | refine w_block ?_ | refine w_skip ?_ | refine w_true rfl ?_ | refine w_false rfl ?_ | refine mv_c rfl ?_ | refine lss_t rfl rfl (by omega) ?_ | refine not_ rfl ?_ | refine add_in rfl rfl (by omega) ?_ | refine load_ptr rfl (by decide) rfl (Nat.le_of_ble_eq_true rfl) rfl ?_ | refine store_ptr rfl rfl (by decide) rfl rfl (Nat.le_of_ble_eq_true rfl) rfl ?_ | refine fad_ptr rfl rfl rfl ?_ | refine iaA_ptr rfl rfl rfl (by omega) rfl ?_ | refine ext_ rfl rfl ?_)
      refine w_loop ?_
      by_cases hm2 : m = 2
      · rw [if_pos hm2] at d2
        obtain ⟨b1, b2, _⟩ := mD_iff.mp d2
        have c6 := C_own i1 (by omega) b1
        have c7 := C_own o1 (by omega) b2
        by_cases f1 : I64 (-s1)
        · rw [if_pos f1] at c3
          rw [if_pos ⟨f0, fun _ => f1⟩]
          repeat' (first | refine call1 rfl c3 ?_ | refine call1 rfl c6 ?_ | refine call1 rfl c7 ?_ | refine w_seq ?_ | refine w_ops ?_ | refine w_opsD0 rfl ?_ | refine st_nil ?_ | refine th_n ?_ | refine bk_n ?_ | refine w_block ?_ | refine w_skip ?_ | refine w_true rfl ?_ | refine w_false rfl ?_ | refine mv_c rfl ?_ | refine lss_t rfl rfl (by omega) ?_ | refine not_ rfl ?_ | refine add_in rfl rfl (by omega) ?_ | refine load_ptr rfl (by decide) rfl (Nat.le_of_ble_eq_true rfl) rfl ?_ | refine store_ptr rfl rfl (by decide) rfl rfl (Nat.le_of_ble_eq_true rfl) rfl ?_ | refine fad_ptr rfl rfl rfl ?_ | refine iaA_ptr rfl rfl rfl (by omega) rfl ?_ | refine ext_ rfl rfl ?_)
          refine w_loop ?_
          repeat' (first | refine w_seq ?_ | refine w_ops ?_ | refine st_nil ?_ | refine th_n ?_ | refine th_x ?_ | refine bk_x ?_ | refine w_exit ?_ | refine w_ret ?_ | refine w_false rfl ?_ | refine mv_c rfl ?_ | refine lss_f rfl rfl (by omega) ?_ | refine load_ptr rfl (by decide) rfl (Nat.le_of_ble_eq_true rfl) rfl ?_ | refine store_ptr rfl rfl (by decide) rfl rfl (Nat.le_of_ble_eq_true rfl) rfl ?_)
          exact fin_r (rv_cell rfl rfl rfl rfl (rv_t rfl rv_nil)) rfl
        · rw [if_neg f1] at c3
          rw [if_neg (fun h => f1 (h.2 hm2))]
          repeat' (first | refine call1 rfl c3 ?_ | refine w_seq ?_ | refine w_ops ?_ | refine st_nil ?_ | refine th_n ?_ | refine th_r ?_ | refine bk_r ?_ | refine w_block ?_ | refine w_skip ?_ | refine w_ret ?_ | refine w_true rfl ?_ | refine mv_c rfl ?_ | refine lss_t rfl rfl (by omega) ?_ | refine not_ rfl ?_ | refine build_ rfl rfl ?_ | refine load_ptr rfl (by decide) rfl (Nat.le_of_ble_eq_true rfl) rfl ?_ | refine store_ptr rfl rfl (by decide) rfl rfl (Nat.le_of_ble_eq_true rfl) rfl ?_ | refine fad_ptr rfl rfl rfl ?_ | refine iaA_ptr rfl rfl rfl (by omega) rfl ?_ | refine ext_ rfl rfl ?_)
          exact fin_r (rv_cell rfl rfl rfl rfl (rv_t rfl rv_nil)) rfl
      · rw [if_neg hm2] at d2
        obtain ⟨rfl, rfl, rfl⟩ := d2
        rw [if_pos ⟨f0, fun h => absurd h hm2⟩]
        repeat' (first | refine w_seq ?_ | refine w_ops ?_ | refine st_nil ?_ | refine th_n ?_ | refine th_x ?_ | refine bk_x ?_ | refine w_exit ?_ | refine w_ret ?_ | refine w_false rfl ?_ | refine mv_c rfl ?_ | refine lss_f rfl rfl (by omega) ?_ | refine load_ptr rfl (by decide) rfl (Nat.le_of_ble_eq_true rfl) rfl ?_ | refine store_ptr rfl rfl (by decide) rfl rfl (Nat.le_of_ble_eq_true rfl) rfl ?_)
        exact fin_r (rv_cell rfl rfl rfl rfl (rv_t rfl rv_nil)) rfl
    · rw [if_neg f0] at c2
      rw [if_neg (fun h => f0 h.1)]
      repeat' (first | refine call2 rfl rfl c1 ?_ | refine w_seq ?_ | refine w_ops ?_ | refine st_nil ?_ | refine th_n ?_ | refine w_block ?_ | refine w_skip ?_ | refine w_false rfl ?_ | refine mv_c rfl ?_ | refine not_ rfl ?_ | refine neg_in rfl (by omega) ?_ | refine alloc_ (fun u => ?_) | refine box_ rfl rfl rfl (fun u => ?_) | refine build_ rfl rfl ?_ | refine load_ptr rfl (by decide) rfl (Nat.le_of_ble_eq_true rfl) rfl ?_ | refine store_ptr rfl rfl (by decide) rfl rfl (Nat.le_of_ble_eq_true rfl) rfl ?_ | refine fad_ptr rfl rfl rfl ?_)
      refine w_loop ?_
      unfold b63_0 r63_5 r63_6 r63_7 r63_8 r63_9 r63_10 r63_11
      repeat' (first | refine call1 rfl c2 ?_ | refine w_seq ?_ | refine w_ops ?_ | refine st_nil ?_ | refine th_n ?_ | refine th_r ?_ | refine bk_r ?_ | refine w_block ?_ | refine w_skip ?_ | refine w_ret ?_ | refine w_true rfl ?_ | refine mv_c rfl ?_ | refine lss_t rfl rfl (by omega) ?_ | refine not_ rfl ?_ | refine build_ rfl rfl ?_ | refine load_ptr rfl (by decide) rfl (Nat.le_of_ble_eq_true rfl) rfl ?_ | refine store_ptr rfl rfl (by decide) rfl rfl (Nat.le_of_ble_eq_true rfl) rfl ?_ | refine fad_ptr rfl rfl rfl ?_ | refine iaA_ptr rfl rfl rfl (by omega) rfl ?_ | refine ext_ rfl rfl ?_)
      exact fin_r (rv_cell rfl rfl rfl rfl (rv_t rfl rv_nil)) rfl
end Go.Proofs.Ytcmejdkjfekoeaa
namespace Go.Proofs.Ytcmejdkjfekoeaa
open Go.Pl Go.Bag
set_option maxHeartbeats 32000000
set_option maxRecDepth 100000
theorem C_may (m : Int) (c : Cell) (is : Bool) (hc : inC 1000000 c) : PCallG Try.prog 108 [.c (.int .i64 m), .c (encCell c), .c (.bool is)] (.c (.bool (mayC m c is))) [] := by
  have c1 := C_cGood m c hc
  have c2 := C_cSame c zeroC ⟨hc.2.2.2.2.2.1, hc.2.2.2.2.2.2⟩ ⟨by simp [zeroC], by simp [zeroC]⟩
  obtain ⟨n, s0, s1, b0, b1⟩ := c
  refine pcallF Try.func108 c108 rfl ?_
  unfold p108 r108_0 r108_1 r108_2 r108_3
  unfold mayC
  cases is with
  | true =>
    simp only [if_true]
    repeat' (first | refine call2 rfl rfl c1 ?_ | refine w_seq ?_ | refine w_ops ?_ | refine st_nil ?_ | refine th_n ?_ | refine th_r ?_ | refine w_ret ?_ | refine w_true rfl ?_ | refine mv_c rfl ?_ | refine box_ rfl rfl rfl (fun u => ?_) | refine load_ptr rfl (by decide) rfl (Nat.le_of_ble_eq_true rfl) rfl ?_)
    exact fin_r rfl rfl
  | false =>
    simp only [Bool.false_eq_true, if_false]
    repeat' (first | refine call2 rfl rfl c2 ?_ | refine w_seq ?_ | refine w_ops ?_ | refine st_nil ?_ | refine th_n ?_ | refine w_skip ?_ | refine w_ret ?_ | refine w_false rfl ?_ | refine mv_c rfl ?_ | refine box_ rfl rfl rfl (fun u => ?_) | refine build_ rfl rfl ?_ | refine load_ptr rfl (by decide) rfl (Nat.le_of_ble_eq_true rfl) rfl ?_)
    exact fin_r rfl rfl
theorem C_dBetween (m : Int) (a b : Cell) (was is : Bool) (ha : inC 400000 a) (hb : inC 400000 b) : PCallG Try.prog 76 [.c (.int .i64 m), .c (encCell a), .c (.bool was), .c (encCell b), .c (.bool is)] (.c (dV (betweenD m a was b is))) [] := by
  have c1 := C_may m a was (inC_to ha (by omega))
  have c2 := C_may m b is (inC_to hb (by omega))
  have hz : ¬ ((1 ≤ m ∧ m ≤ 2) ∧ mayC m a was = true ∧ mayC m b is = true) → betweenD m a was b is = (zeroD, false) := fun h => by unfold betweenD; rw [if_neg h]
  have hj := @betweenD_eq m a b was is
  have h0 : mayC m a was = true → ¬ (1 ≤ m ∧ m ≤ 2) → a = zeroC := fun h hm => by
    unfold mayC at h
    cases was with
    | true => simp only [if_true] at h; exact absurd (goodC_iff.mp h).1 hm
    | false => simpa using h
  have h1 : mayC m b is = true → ¬ (1 ≤ m ∧ m ≤ 2) → b = zeroC := fun h hm => by
    unfold mayC at h
    cases is with
    | true => simp only [if_true] at h; exact absurd (goodC_iff.mp h).1 hm
    | false => simpa using h
  have h2 := @mayC_is m a was
  have h3 := @mayC_is m b is
  have h4 := @mayC_1 m a was
  have h5 := @mayC_1 m b is
  obtain ⟨n, s0, s1, b0, b1⟩ := a
  obtain ⟨k, t0, t1, d0, d1⟩ := b
  obtain ⟨hn, hs0, hs1, hr0, hr1, hl0, hl1⟩ := ha
  obtain ⟨hk, ht0, ht1, hq0, hq1, hm0, hm1⟩ := hb
  simp only at hn hs0 hs1 hr0 hr1 hl0 hl1 hk ht0 ht1 hq0 hq1 hm0 hm1 h2 h3 h4 h5
  have c3 := C_Sub t0 s0 ht0 hs0
  have c4 := C_Sub t1 s1 ht1 hs1
  show PCallG _ 76 [.c (.int .i64 m), .c (.agg [.int .i64 n, .int .i64 s0, .int .i64 s1, encL b0, encL b1]), .c (.bool was), .c (.agg [.int .i64 k, .int .i64 t0, .int .i64 t1, encL d0, encL d1]), .c (.bool is)] _ _
  unfold encCell encC at c1 c2
  refine pcallF Try.func76 c76 rfl ?_
  unfold p76 r76_0 r76_1 r76_2 r76_3 r76_4 r76_13 r76_14 r76_15
  cases ga : mayC m ⟨n, s0, s1, b0, b1⟩ was with
  | false =>
    rw [ga] at c1
    rw [hz (fun h => by rw [ga] at h; cases h.2.1)]
    repeat' (first | refine call3 rfl rfl rfl c1 ?_ | refine w_seq ?_ | refine w_ops ?_ | refine st_nil ?_ | refine th_n ?_ | refine th_r ?_ | refine w_ret ?_ | refine w_true rfl ?_ | refine g_no rfl ?_ | refine mv_c rfl ?_ | refine pick_t rfl rfl ?_ | refine not_ rfl ?_ | refine alloc_ (fun u => ?_) | refine box_ rfl rfl rfl (fun u => ?_) | refine build_ rfl rfl ?_ | refine load_ptr rfl (by decide) rfl (Nat.le_of_ble_eq_true rfl) rfl ?_ | refine store_ptr rfl rfl (by decide) rfl rfl (Nat.le_of_ble_eq_true rfl) rfl ?_)
    exact fin_r (rv_cell rfl rfl rfl rfl (rv_t rfl rv_nil)) rfl
  | true =>
    rw [ga] at c1
    cases gb : mayC m ⟨k, t0, t1, d0, d1⟩ is with
    | false =>
      rw [gb] at c2
      rw [hz (fun h => by rw [gb] at h; cases h.2.2)]
      repeat' (first | refine call3 rfl rfl rfl c1 ?_ | refine call3 rfl rfl rfl c2 ?_ | refine w_seq ?_ | refine w_ops ?_ | refine st_nil ?_ | refine th_n ?_ | refine th_r ?_ | refine w_ret ?_ | refine w_true rfl ?_ | refine g_yes rfl ?_ | refine mv_c rfl ?_ | refine pick_f rfl rfl ?_ | refine not_ rfl ?_ | refine alloc_ (fun u => ?_) | refine box_ rfl rfl rfl (fun u => ?_) | refine build_ rfl rfl ?_ | refine load_ptr rfl (by decide) rfl (Nat.le_of_ble_eq_true rfl) rfl ?_ | refine store_ptr rfl rfl (by decide) rfl rfl (Nat.le_of_ble_eq_true rfl) rfl ?_)
      exact fin_r (rv_cell rfl rfl rfl rfl (rv_t rfl rv_nil)) rfl
    | true =>
      rw [gb] at c2
      obtain ⟨⟨x1, x2, x3⟩, x4, x5⟩ := h2 ga
      obtain ⟨⟨y1, y2, y3⟩, y4, y5⟩ := h3 gb
      have p1 := C_part d0 b0 (by omega) (by omega) y1 x1
      by_cases hm : 1 ≤ m ∧ m ≤ 2
      · have e := hj hm ga gb
        by_cases f0 : I64 (t0 - s0)
        · rw [if_pos f0] at c3
          by_cases hm2 : m = 2
          · obtain ⟨x6, x7, x8⟩ := x4 hm2
            obtain ⟨y6, y7, y8⟩ := y4 hm2
            have p2 := C_part d1 b1 (by omega) (by omega) y6 x6
            simp only [keD, if_pos hm2] at e
            by_cases f1 : I64 (t1 - s1)
            · rw [if_pos f1] at c4
              have hin : inD 1000000 ⟨k - n, t0 - s0, t1 - s1, cut b0 d0, cut b1 d1, cut d0 b0, cut d1 b1⟩ := ⟨⟨by show -9223372036854775808 ≤ k - n; omega, by show k - n ≤ 9223372036854775807; omega⟩, f0, f1, inB_mono (inB_cut y1 x1 ⟨hq0, hm0⟩) (by omega), inB_mono (inB_cut y6 x6 ⟨hq1, hm1⟩) (by omega), inB_mono (inB_cut x1 y1 ⟨hr0, hl0⟩) (by omega), inB_mono (inB_cut x6 y6 ⟨hr1, hl1⟩) (by omega)⟩
              have c7 := C_dGood m _ hin
              unfold encDelta encD at c7
              rw [e]
              generalize goodD m ⟨k - n, t0 - s0, t1 - s1, cut b0 d0, cut b1 d1, cut d0 b0, cut d1 b1⟩ = g at c7
              generalize cut b0 d0 = z0 at *
              generalize cut b1 d1 = z1 at *
              generalize cut d0 b0 = z2 at *
              generalize cut d1 b1 = z3 at *
              repeat' (first | refine call3 rfl rfl rfl c1 ?_ | refine call3 rfl rfl rfl c2 ?_ | refine w_seq ?_ | refine w_ops ?_ | refine st_nil ?_ | refine th_n ?_ | refine w_block ?_ | refine w_skip ?_ | refine w_false rfl ?_ | refine g_yes rfl ?_ | refine mv_c rfl ?_ | refine pick_f rfl rfl ?_ | refine not_ rfl ?_ | refine sub_in rfl rfl (by omega) ?_ | refine alloc_ (fun u => ?_) | refine box_ rfl rfl rfl (fun u => ?_) | refine build_ rfl rfl ?_ | refine load_ptr rfl (by decide) rfl (Nat.le_of_ble_eq_true rfl) rfl ?_ | refine store_ptr rfl rfl (by decide) rfl rfl (Nat.le_of_ble_eq_true rfl) rfl ?_ | refine fad_ptr rfl rfl rfl ?_)
              refine w_loop ?_
              unfold b76_0 r76_5 r76_6 r76_7 r76_8 r76_9 r76_10 r76_11 r76_12
              repeat' (first | refine call2 rfl rfl c3 ?_ | refine call2 rfl rfl p1 ?_ | refine w_seq ?_ | refine w_ops ?_ | refine w_opsD0 rfl ?_ | refine st_nil ?_ | refine th_n ?_ | refine bk_n ?_ | refine w_block ?_ | refine w_skip ?_ | refine w_true rfl ?_ | refine w_false rfl ?_ | refine mv_c rfl ?_ | refine lss_t rfl rfl (by omega) ?_ | refine not_ rfl ?_ | refine add_in rfl rfl (by omega) ?_ | refine load_ptr rfl (by decide) rfl (Nat.le_of_ble_eq_true rfl) rfl ?_ | refine store_ptr rfl rfl (by decide) rfl rfl (Nat.le_of_ble_eq_true rfl) rfl ?_ | refine fad_ptr rfl rfl rfl ?_ | refine iaA_ptr rfl rfl rfl (by omega) rfl ?_ | refine ext_ rfl rfl ?_)
              refine w_loop ?_
              repeat' (first | refine call2 rfl rfl c4 ?_ | refine call2 rfl rfl p2 ?_ | refine w_seq ?_ | refine w_ops ?_ | refine w_opsD0 rfl ?_ | refine st_nil ?_ | refine th_n ?_ | refine bk_n ?_ | refine w_block ?_ | refine w_skip ?_ | refine w_true rfl ?_ | refine w_false rfl ?_ | refine mv_c rfl ?_ | refine lss_t rfl rfl (by omega) ?_ | refine not_ rfl ?_ | refine add_in rfl rfl (by omega) ?_ | refine load_ptr rfl (by decide) rfl (Nat.le_of_ble_eq_true rfl) rfl ?_ | refine store_ptr rfl rfl (by decide) rfl rfl (Nat.le_of_ble_eq_true rfl) rfl ?_ | refine fad_ptr rfl rfl rfl ?_ | refine iaA_ptr rfl rfl rfl (by omega) rfl ?_ | refine ext_ rfl rfl ?_)
              refine w_loop ?_
              cases g with
              | false =>
                rw [if_neg (fun h => by cases h.2.2)]
                repeat' (first | refine call2 rfl rfl c7 ?_ | refine w_seq ?_ | refine w_ops ?_ | refine st_nil ?_ | refine th_n ?_ | refine th_x ?_ | refine th_r ?_ | refine bk_x ?_ | refine w_exit ?_ | refine w_ret ?_ | refine w_true rfl ?_ | refine w_false rfl ?_ | refine mv_c rfl ?_ | refine lss_f rfl rfl (by omega) ?_ | refine not_ rfl ?_ | refine build_ rfl rfl ?_ | refine load_ptr rfl (by decide) rfl (Nat.le_of_ble_eq_true rfl) rfl ?_ | refine store_ptr rfl rfl (by decide) rfl rfl (Nat.le_of_ble_eq_true rfl) rfl ?_)
                exact fin_r (rv_cell rfl rfl rfl rfl (rv_t rfl rv_nil)) rfl
              | true =>
                rw [if_pos ⟨f0, fun _ => f1, rfl⟩]
                repeat' (first | refine call2 rfl rfl c7 ?_ | refine w_seq ?_ | refine w_ops ?_ | refine st_nil ?_ | refine th_n ?_ | refine th_x ?_ | refine bk_x ?_ | refine w_skip ?_ | refine w_exit ?_ | refine w_ret ?_ | refine w_false rfl ?_ | refine mv_c rfl ?_ | refine lss_f rfl rfl (by omega) ?_ | refine not_ rfl ?_ | refine load_ptr rfl (by decide) rfl (Nat.le_of_ble_eq_true rfl) rfl ?_ | refine store_ptr rfl rfl (by decide) rfl rfl (Nat.le_of_ble_eq_true rfl) rfl ?_)
                exact fin_r (rv_cell rfl rfl rfl rfl (rv_t rfl rv_nil)) rfl
            · rw [if_neg f1] at c4
              rw [e, if_neg (fun h => f1 (h.2.1 hm2))]
              repeat' (first | refine call3 rfl rfl rfl c1 ?_ | refine call3 rfl rfl rfl c2 ?_ | refine w_seq ?_ | refine w_ops ?_ | refine st_nil ?_ | refine th_n ?_ | refine w_block ?_ | refine w_skip ?_ | refine w_false rfl ?_ | refine g_yes rfl ?_ | refine mv_c rfl ?_ | refine pick_f rfl rfl ?_ | refine not_ rfl ?_ | refine sub_in rfl rfl (by omega) ?_ | refine alloc_ (fun u => ?_) | refine box_ rfl rfl rfl (fun u => ?_) | refine build_ rfl rfl ?_ | refine load_ptr rfl (by decide) rfl (Nat.le_of_ble_eq_true rfl) rfl ?_ | refine store_ptr rfl rfl (by decide) rfl rfl (Nat.le_of_ble_eq_true rfl) rfl ?_ | refine fad_ptr rfl rfl rfl ?_)
              refine w_loop ?_
              unfold b76_0 r76_5 r76_6 r76_7 r76_8 r76_9 r76_10 r76_11 r76_12
              repeat' (first | refine call2 rfl rfl c3 ?_ | refine call2 rfl rfl p1 ?_ | refine w_seq ?_ | refine w_ops ?_ | refine w_opsD0 rfl ?_ | refine st_nil ?_ | refine th_n ?_ | refine bk_n ?_ | refine w_block ?_ | refine w_skip ?_ | refine w_true rfl ?_ | refine w_false rfl ?_ | refine mv_c rfl ?_ | refine lss_t rfl rfl (by omega) ?_ | refine not_ rfl ?_ | refine add_in rfl rfl (by omega) ?_ | refine load_ptr rfl (by decide) rfl (Nat.le_of_ble_eq_true rfl) rfl ?_ | refine store_ptr rfl rfl (by decide) rfl rfl (Nat.le_of_ble_eq_true rfl) rfl ?_ | refine fad_ptr rfl rfl rfl ?_ | refine iaA_ptr rfl rfl rfl (by omega) rfl ?_ | refine ext_ rfl rfl ?_)
              refine w_loop ?_
              repeat' (first | refine call2 rfl rfl c4 ?_ | refine w_seq ?_ | refine w_ops ?_ | refine w_opsD0 rfl ?_ | refine st_nil ?_ | refine th_n ?_ | refine th_r ?_ | refine bk_r ?_ | refine w_block ?_ | refine w_skip ?_ | refine w_ret ?_ | refine w_true rfl ?_ | refine mv_c rfl ?_ | refine lss_t rfl rfl (by omega) ?_ | refine not_ rfl ?_ | refine build_ rfl rfl ?_ | refine load_ptr rfl (by decide) rfl (Nat.le_of_ble_eq_true rfl) rfl ?_ | refine store_ptr rfl rfl (by decide) rfl rfl (Nat.le_of_ble_eq_true rfl) rfl ?_ | refine fad_ptr rfl rfl rfl ?_ | refine iaA_ptr rfl rfl rfl (by omega) rfl ?_ | refine ext_ rfl rfl ?_)
              exact fin_r (rv_cell rfl rfl rfl rfl (rv_t rfl rv_nil)) rfl
          · obtain ⟨rfl, rfl⟩ := h4 ga hm2
            obtain ⟨rfl, rfl⟩ := h5 gb hm2
            have g0 : good [] = true := by decide
            have p2 := C_part [] [] (by simp) (by simp) g0 g0
            simp only [cut] at p2
            rw [if_pos (by decide)] at c4
            simp only [keD, if_neg hm2] at e
            have hin : inD 1000000 ⟨k - n, t0 - s0, 0, cut b0 d0, [], cut d0 b0, []⟩ := ⟨⟨by show -9223372036854775808 ≤ k - n; omega, by show k - n ≤ 9223372036854775807; omega⟩, f0, (by decide : in64 0), inB_mono (inB_cut y1 x1 ⟨hq0, hm0⟩) (by omega), inB_nil _, inB_mono (inB_cut x1 y1 ⟨hr0, hl0⟩) (by omega), inB_nil _⟩
            have c7 := C_dGood m _ hin
            unfold encDelta encD at c7
            rw [e]
            generalize goodD m ⟨k - n, t0 - s0, 0, cut b0 d0, [], cut d0 b0, []⟩ = g at c7
            generalize cut b0 d0 = z0 at *
            generalize cut d0 b0 = z2 at *
            repeat' (first | refine call3 rfl rfl rfl c1 ?_ | refine call3 rfl rfl rfl c2 ?_ | refine w_seq ?_ | refine w_ops ?_ | refine st_nil ?_ | refine th_n ?_ | refine w_block ?_ | refine w_skip ?_ | refine w_false rfl ?_ | refine g_yes rfl ?_ | refine mv_c rfl ?_ | refine pick_f rfl rfl ?_ | refine not_ rfl ?_ | refine sub_in rfl rfl (by omega) ?_ | refine alloc_ (fun u => ?_) | refine box_ rfl rfl rfl (fun u => ?_) | refine build_ rfl rfl ?_ | refine load_ptr rfl (by decide) rfl (Nat.le_of_ble_eq_true rfl) rfl ?_ | refine store_ptr rfl rfl (by decide) rfl rfl (Nat.le_of_ble_eq_true rfl) rfl ?_ | refine fad_ptr rfl rfl rfl ?_)
            refine w_loop ?_
            unfold b76_0 r76_5 r76_6 r76_7 r76_8 r76_9 r76_10 r76_11 r76_12
            repeat' (first | refine call2 rfl rfl c3 ?_ | refine call2 rfl rfl p1 ?_ | refine w_seq ?_ | refine w_ops ?_ | refine w_opsD0 rfl ?_ | refine st_nil ?_ | refine th_n ?_ | refine bk_n ?_ | refine w_block ?_ | refine w_skip ?_ | refine w_true rfl ?_ | refine w_false rfl ?_ | refine mv_c rfl ?_ | refine lss_t rfl rfl (by omega) ?_ | refine not_ rfl ?_ | refine add_in rfl rfl (by omega) ?_ | refine load_ptr rfl (by decide) rfl (Nat.le_of_ble_eq_true rfl) rfl ?_ | refine store_ptr rfl rfl (by decide) rfl rfl (Nat.le_of_ble_eq_true rfl) rfl ?_ | refine fad_ptr rfl rfl rfl ?_ | refine iaA_ptr rfl rfl rfl (by omega) rfl ?_ | refine ext_ rfl rfl ?_)
            refine w_loop ?_
            repeat' (first | refine call2 rfl rfl c4 ?_ | refine call2 rfl rfl p2 ?_ | refine w_seq ?_ | refine w_ops ?_ | refine w_opsD0 rfl ?_ | refine st_nil ?_ | refine th_n ?_ | refine bk_n ?_ | refine w_block ?_ | refine w_skip ?_ | refine w_true rfl ?_ | refine w_false rfl ?_ | refine mv_c rfl ?_ | refine lss_t rfl rfl (by omega) ?_ | refine not_ rfl ?_ | refine add_in rfl rfl (by omega) ?_ | refine load_ptr rfl (by decide) rfl (Nat.le_of_ble_eq_true rfl) rfl ?_ | refine store_ptr rfl rfl (by decide) rfl rfl (Nat.le_of_ble_eq_true rfl) rfl ?_ | refine fad_ptr rfl rfl rfl ?_ | refine iaA_ptr rfl rfl rfl (by omega) rfl ?_ | refine ext_ rfl rfl ?_)
            refine w_loop ?_
            cases g with
            | false =>
              rw [if_neg (fun h => by cases h.2.2)]
              repeat' (first | refine call2 rfl rfl c7 ?_ | refine w_seq ?_ | refine w_ops ?_ | refine st_nil ?_ | refine th_n ?_ | refine th_x ?_ | refine th_r ?_ | refine bk_x ?_ | refine w_exit ?_ | refine w_ret ?_ | refine w_true rfl ?_ | refine w_false rfl ?_ | refine mv_c rfl ?_ | refine lss_f rfl rfl (by omega) ?_ | refine not_ rfl ?_ | refine build_ rfl rfl ?_ | refine load_ptr rfl (by decide) rfl (Nat.le_of_ble_eq_true rfl) rfl ?_ | refine store_ptr rfl rfl (by decide) rfl rfl (Nat.le_of_ble_eq_true rfl) rfl ?_)
              exact fin_r (rv_cell rfl rfl rfl rfl (rv_t rfl rv_nil)) rfl
            | true =>
              rw [if_pos ⟨f0, fun h => absurd h hm2, rfl⟩]
              repeat' (first | refine call2 rfl rfl c7 ?_ | refine w_seq ?_ | refine w_ops ?_ | refine st_nil ?_ | refine th_n ?_ | refine th_x ?_ | refine bk_x ?_ | refine w_skip ?_ | refine w_exit ?_ | refine w_ret ?_ | refine w_false rfl ?_ | refine mv_c rfl ?_ | refine lss_f rfl rfl (by omega) ?_ | refine not_ rfl ?_ | refine load_ptr rfl (by decide) rfl (Nat.le_of_ble_eq_true rfl) rfl ?_ | refine store_ptr rfl rfl (by decide) rfl rfl (Nat.le_of_ble_eq_true rfl) rfl ?_)
              exact fin_r (rv_cell rfl rfl rfl rfl (rv_t rfl rv_nil)) rfl
        · rw [if_neg f0] at c3
          rw [e, if_neg (fun h => f0 h.1)]
          repeat' (first | refine call3 rfl rfl rfl c1 ?_ | refine call3 rfl rfl rfl c2 ?_ | refine w_seq ?_ | refine w_ops ?_ | refine st_nil ?_ | refine th_n ?_ | refine w_block ?_ | refine w_skip ?_ | refine w_false rfl ?_ | refine g_yes rfl ?_ | refine mv_c rfl ?_ | refine pick_f rfl rfl ?_ | refine not_ rfl ?_ | refine sub_in rfl rfl (by omega) ?_ | refine alloc_ (fun u => ?_) | refine box_ rfl rfl rfl (fun u => ?_) | refine build_ rfl rfl ?_ | refine load_ptr rfl (by decide) rfl (Nat.le_of_ble_eq_true rfl) rfl ?_ | refine store_ptr rfl rfl (by decide) rfl rfl (Nat.le_of_ble_eq_true rfl) rfl ?_ | refine fad_ptr rfl rfl rfl ?_)
          refine w_loop ?_
          unfold b76_0 r76_5 r76_6 r76_7 r76_8 r76_9 r76_10 r76_11 r76_12
          repeat' (first | refine call2 rfl rfl c3 ?_ | refine w_seq ?_ | refine w_ops ?_ | refine w_opsD0 rfl ?_ | refine st_nil ?_ | refine th_n ?_ | refine th_r ?_ | refine bk_r ?_ | refine w_block ?_ | refine w_skip ?_ | refine w_ret ?_ | refine w_true rfl ?_ | refine mv_c rfl ?_ | refine lss_t rfl rfl (by omega) ?_ | refine not_ rfl ?_ | refine build_ rfl rfl ?_ | refine load_ptr rfl (by decide) rfl (Nat.le_of_ble_eq_true rfl) rfl ?_ | refine store_ptr rfl rfl (by decide) rfl rfl (Nat.le_of_ble_eq_true rfl) rfl ?_ | refine fad_ptr rfl rfl rfl ?_ | refine iaA_ptr rfl rfl rfl (by omega) rfl ?_ | refine ext_ rfl rfl ?_)
          exact fin_r (rv_cell rfl rfl rfl rfl (rv_t rfl rv_nil)) rfl
      · rw [hz (fun h => hm h.1)]
        obtain ⟨rfl, rfl, rfl, rfl, rfl⟩ := Cell.mk.inj (h0 ga hm)
        obtain ⟨rfl, rfl, rfl, rfl, rfl⟩ := Cell.mk.inj (h1 gb hm)
        have g0 : good [] = true := by decide
        have p2 := C_part [] [] (by simp) (by simp) g0 g0
        simp only [cut] at p2
        rw [if_pos (by decide)] at c4
        have c7 := C_dGood m zeroD (inD_zero _)
        have gz : goodD m zeroD = false := by
          cases hg : goodD m zeroD with
          | false => rfl
          | true => exact absurd (goodD_iff.mp hg).1 hm
        rw [gz] at c7
        repeat' (first | refine call3 rfl rfl rfl c1 ?_ | refine call3 rfl rfl rfl c2 ?_ | refine w_seq ?_ | refine w_ops ?_ | refine st_nil ?_ | refine th_n ?_ | refine w_block ?_ | refine w_skip ?_ | refine w_false rfl ?_ | refine g_yes rfl ?_ | refine mv_c rfl ?_ | refine pick_f rfl rfl ?_ | refine not_ rfl ?_ | refine sub_in rfl rfl (by omega) ?_ | refine alloc_ (fun u => ?_) | refine box_ rfl rfl rfl (fun u => ?_) | refine build_ rfl rfl ?_ | refine load_ptr rfl (by decide) rfl (Nat.le_of_ble_eq_true rfl) rfl ?_ | refine store_ptr rfl rfl (by decide) rfl rfl (Nat.le_of_ble_eq_true rfl) rfl ?_ | refine fad_ptr rfl rfl rfl ?_)
        refine w_loop ?_
        unfold b76_0 r76_5 r76_6 r76_7 r76_8 r76_9 r76_10 r76_11 r76_12
        repeat' (first | refine call2 rfl rfl c4 ?_ | refine call2 rfl rfl p2 ?_ | refine w_seq ?_ | refine w_ops ?_ | refine w_opsD0 rfl ?_ | refine st_nil ?_ | refine th_n ?_ | refine bk_n ?_ | refine w_block ?_ | refine w_skip ?_ | refine w_true rfl ?_ | refine w_false rfl ?_ | refine mv_c rfl ?_ | refine lss_t rfl rfl (by omega) ?_ | refine not_ rfl ?_ | refine add_in rfl rfl (by omega) ?_ | refine load_ptr rfl (by decide) rfl (Nat.le_of_ble_eq_true rfl) rfl ?_ | refine store_ptr rfl rfl (by decide) rfl rfl (Nat.le_of_ble_eq_true rfl) rfl ?_ | refine fad_ptr rfl rfl rfl ?_ | refine iaA_ptr rfl rfl rfl (by omega) rfl ?_ | refine ext_ rfl rfl ?_)
        refine w_loop ?_
        repeat' (first | refine call2 rfl rfl c4 ?_ | refine call2 rfl rfl p2 ?_ | refine w_seq ?_ | refine w_ops ?_ | refine w_opsD0 rfl ?_ | refine st_nil ?_ | refine th_n ?_ | refine bk_n ?_ | refine w_block ?_ | refine w_skip ?_ | refine w_true rfl ?_ | refine w_false rfl ?_ | refine mv_c rfl ?_ | refine lss_t rfl rfl (by omega) ?_ | refine not_ rfl ?_ | refine add_in rfl rfl (by omega) ?_ | refine load_ptr rfl (by decide) rfl (Nat.le_of_ble_eq_true rfl) rfl ?_ | refine store_ptr rfl rfl (by decide) rfl rfl (Nat.le_of_ble_eq_true rfl) rfl ?_ | refine fad_ptr rfl rfl rfl ?_ | refine iaA_ptr rfl rfl rfl (by omega) rfl ?_ | refine ext_ rfl rfl ?_)
        refine w_loop ?_
        repeat' (first | refine call2 rfl rfl c7 ?_ | refine w_seq ?_ | refine w_ops ?_ | refine st_nil ?_ | refine th_n ?_ | refine th_x ?_ | refine th_r ?_ | refine bk_x ?_ | refine w_exit ?_ | refine w_ret ?_ | refine w_true rfl ?_ | refine w_false rfl ?_ | refine mv_c rfl ?_ | refine lss_f rfl rfl (by omega) ?_ | refine not_ rfl ?_ | refine build_ rfl rfl ?_ | refine load_ptr rfl (by decide) rfl (Nat.le_of_ble_eq_true rfl) rfl ?_ | refine store_ptr rfl rfl (by decide) rfl rfl (Nat.le_of_ble_eq_true rfl) rfl ?_)
        exact fin_r (rv_cell rfl rfl rfl rfl (rv_t rfl rv_nil)) rfl
theorem C_dOf (m : Int) (del : Bool) (r : RowS) (h0 : in64 r.m0) (h1 : in64 r.m1) : PCallG Try.prog 59 [.c (.int .i64 m), .c (encCh del r)] (.c (dV (ofD m del r))) [] := by
  have c1 := C_cOf m [r] (by simp) (fun q hq => by obtain rfl := List.mem_singleton.mp hq; exact ⟨h0, h1⟩)
  have e1 := @ofD_between m
  obtain ⟨⟨p0, p1, p2, p3⟩, m0, m1⟩ := r
  simp only at h0 h1
  show PCallG _ 59 [.c (.int .i64 m), .c (.agg [.bool del, .int .u8 p0, .int .u8 p1, .int .u8 p2, .int .u8 p3, .int .i64 m0, .int .i64 m1])] _ _
  refine pcallF Try.func59 c59 rfl ?_
  unfold p59 r59_0 r59_1 r59_2 r59_3 r59_4 r59_5 r59_6
  by_cases hm : 1 ≤ m ∧ m ≤ 2
  · have hin : inC 400000 (ofC m [⟨⟨p0, p1, p2, p3⟩, m0, m1⟩]).1 := by
      rw [ofC_one hm _ h0 h1]
      refine ⟨by show in64 1; decide, h0, ?_, (inB_one h0).1, ?_, by simp, ?_⟩
      · show in64 (if m = 2 then m1 else 0)
        split
        · exact h1
        · decide
      · show ranged (if m = 2 then [(m1, 1)] else [])
        split
        · exact (inB_one h1).1
        · exact (inB_nil 0).1
      · show (if m = 2 then [(m1, 1)] else []).length ≤ 400000
        split <;> simp
    have e := e1 hm del ⟨⟨p0, p1, p2, p3⟩, m0, m1⟩ h0 h1
    have hk : (ofC m [⟨⟨p0, p1, p2, p3⟩, m0, m1⟩]).2 = true := by rw [ofC_one hm _ h0 h1]
    rw [hk] at c1
    have c2 := C_dBetween m (ofC m [⟨⟨p0, p1, p2, p3⟩, m0, m1⟩]).1 zeroC true false hin (inC_zero _)
    have c3 := C_dBetween m zeroC (ofC m [⟨⟨p0, p1, p2, p3⟩, m0, m1⟩]).1 false true (inC_zero _) hin
    rw [e]
    generalize (ofC m [⟨⟨p0, p1, p2, p3⟩, m0, m1⟩]).1 = z at c1 c2 c3
    obtain ⟨zn, zs0, zs1, zb0, zb1⟩ := z
    cases del with
    | true =>
      simp only [if_true]
      generalize betweenD m ⟨zn, zs0, zs1, zb0, zb1⟩ true zeroC false = w at c2
      obtain ⟨⟨_, _, _, _, _, _, _⟩, _⟩ := w
      repeat' (first | refine call2 rfl rfl c1 ?_ | refine call5 rfl rfl rfl rfl rfl c2 ?_ | refine w_seq ?_ | refine w_ops ?_ | refine st_nil ?_ | refine th_n ?_ | refine th_r ?_ | refine w_skip ?_ | refine w_ret ?_ | refine w_true rfl ?_ | refine w_false rfl ?_ | refine mv_c rfl ?_ | refine not_ rfl ?_ | refine alloc_ (fun u => ?_) | refine box_ rfl rfl rfl (fun u => ?_) | refine build_ rfl rfl ?_ | refine bsl_ rfl rfl ?_ | refine load_ptr rfl (by decide) rfl (Nat.le_of_ble_eq_true rfl) rfl ?_ | refine store_ptr rfl rfl (by decide) rfl rfl (Nat.le_of_ble_eq_true rfl) rfl ?_ | refine fad_ptr rfl rfl rfl ?_ | refine ext_ rfl rfl ?_)
      exact fin_r (rv_cell rfl rfl rfl rfl (rv_t rfl rv_nil)) rfl
    | false =>
      simp only [Bool.false_eq_true, if_false]
      generalize betweenD m zeroC false ⟨zn, zs0, zs1, zb0, zb1⟩ true = w at c3
      obtain ⟨⟨_, _, _, _, _, _, _⟩, _⟩ := w
      repeat' (first | refine call2 rfl rfl c1 ?_ | refine call5 rfl rfl rfl rfl rfl c3 ?_ | refine w_seq ?_ | refine w_ops ?_ | refine st_nil ?_ | refine th_n ?_ | refine w_skip ?_ | refine w_ret ?_ | refine w_false rfl ?_ | refine mv_c rfl ?_ | refine not_ rfl ?_ | refine alloc_ (fun u => ?_) | refine box_ rfl rfl rfl (fun u => ?_) | refine build_ rfl rfl ?_ | refine bsl_ rfl rfl ?_ | refine load_ptr rfl (by decide) rfl (Nat.le_of_ble_eq_true rfl) rfl ?_ | refine store_ptr rfl rfl (by decide) rfl rfl (Nat.le_of_ble_eq_true rfl) rfl ?_ | refine fad_ptr rfl rfl rfl ?_ | refine ext_ rfl rfl ?_)
      exact fin_r (rv_cell rfl rfl rfl rfl (rv_t rfl rv_nil)) rfl
  · have ez : ofC m [⟨⟨p0, p1, p2, p3⟩, m0, m1⟩] = (zeroC, false) := by unfold ofC; rw [if_neg fun h => hm h.1]
    have e : ofD m del ⟨⟨p0, p1, p2, p3⟩, m0, m1⟩ = (zeroD, false) := by unfold ofD; rw [if_neg hm]
    rw [ez] at c1
    rw [e]
    repeat' (first | refine call2 rfl rfl c1 ?_ | refine w_seq ?_ | refine w_ops ?_ | refine st_nil ?_ | refine th_n ?_ | refine th_r ?_ | refine w_ret ?_ | refine w_true rfl ?_ | refine mv_c rfl ?_ | refine not_ rfl ?_ | refine alloc_ (fun u => ?_) | refine box_ rfl rfl rfl (fun u => ?_) | refine build_ rfl rfl ?_ | refine bsl_ rfl rfl ?_ | refine load_ptr rfl (by decide) rfl (Nat.le_of_ble_eq_true rfl) rfl ?_ | refine store_ptr rfl rfl (by decide) rfl rfl (Nat.le_of_ble_eq_true rfl) rfl ?_ | refine fad_ptr rfl rfl rfl ?_ | refine ext_ rfl rfl ?_)
    exact fin_r (rv_cell rfl rfl rfl rfl (rv_t rfl rv_nil)) rfl
end Go.Proofs.Ytcmejdkjfekoeaa
namespace Go.Proofs.Ytcmejdkjfekoeaa
open Go.Pl Go.Bag
set_option maxHeartbeats 64000000
set_option maxRecDepth 100000
theorem w_cut74 {C : CallP} {p q : PCode} {s : PS} {K : Ex → PS → Prop} (R : PS → Prop) (h1 : wP C p s (xT R K)) (h2 : ∀ s', R s' → wP C q s' K) : wP C (.seq p q) s K := by
  refine w_seq ?_
  unfold wP xT at *
  refine pwp_mono (fun e s h => ?_) h1
  cases e with
  | n => exact h2 s h
  | x i => exact h
  | r => exact h
def Ap (m : Int) (c d : List CV) (j : Int) (cs : List CV) (s' : PS) : Prop := ∃ v5 v7 v8 v11 : Nat, s'.t 0 = .c (.int .i64 m) ∧ s'.t 35 = .c (.int .i64 m) ∧ s'.t 36 = .c (.int .i64 j) ∧ s'.t 5 = .ptr 5 v5 0 ∧ s'.bx 5 = ⟨v5, .var c⟩ ∧ s'.t 7 = .ptr 7 v7 0 ∧ s'.bx 7 = ⟨v7, .var d⟩ ∧
  s'.t 8 = .ptr 8 v8 0 ∧ s'.bx 8 = ⟨v8, .var [.int .i64 0, .int .i64 0, .int .i64 0, .sl [], .sl []]⟩ ∧ s'.t 11 = .ptr 11 v11 0 ∧ s'.bx 11 = ⟨v11, .var cs⟩
def ApF (s' : PS) : Prop := ∃ v8 : Nat, s'.t 8 = .ptr 8 v8 0 ∧ s'.bx 8 = ⟨v8, .var [.int .i64 0, .int .i64 0, .int .i64 0, .sl [], .sl []]⟩ ∧ s'.t 9 = .c (.bool false) ∧ s'.t 10 = .c (.bool false)
theorem ap_0 {K : Ex → PS → Prop} (m n s0 s1 k t0 t1 : Int) (b0 b1 i0 i1 o0 o1 : List Run) (hm : 0 < m ∧ m ≤ 2) (hs : I64 s0) (ht : I64 t0) (lb : b0.length ≤ 400000) (lo : o0.length ≤ 400000) (li : i0.length ≤ 400000)
    (N x0 x1 y0 y1 : CV) (s : PS) (h : Ap m [.int .i64 n, .int .i64 s0, .int .i64 s1, encL b0, encL b1] [.int .i64 k, .int .i64 t0, .int .i64 t1, encL i0, encL i1, encL o0, encL o1] 0 [N, x0, x1, y0, y1] s)
    (hy : (swap b0 o0 i0).2 = true → I64 (s0 + t0) → ∀ s', Ap m [.int .i64 n, .int .i64 s0, .int .i64 s1, encL b0, encL b1] [.int .i64 k, .int .i64 t0, .int .i64 t1, encL i0, encL i1, encL o0, encL o1] 1 [N, .int .i64 (s0 + t0), x1, encL (swap b0 o0 i0).1, y1] s' → K .n s')
    (hn : ¬ ((swap b0 o0 i0).2 = true ∧ I64 (s0 + t0)) → ∀ s', ApF s' → K .r s') : wP (PCallG Try.prog) b74_0 s K := by
  obtain ⟨v5, v7, v8, v11, e0, e35, e36, e5, x5, e7, x7, e8, x8, e11, x11⟩ := h
  have lm := minusLen b0 o0
  have c3 := C_Minus b0 o0 (by omega) (by omega)
  have c4 := C_Join (minus b0 o0).1 i0 (by omega) (by omega)
  have c5 := C_Add s0 t0 hs ht
  have A1 : (minus b0 o0).2 = false → swap b0 o0 i0 = ([], false) := fun h => by unfold Go.Bag.swap; rw [h]; rfl
  have A2 : (minus b0 o0).2 = true → swap b0 o0 i0 = join (minus b0 o0).1 i0 := fun h => by unfold Go.Bag.swap; rw [h]; rfl
  generalize swap b0 o0 i0 = w at *
  generalize join (minus b0 o0).1 i0 = jA at *
  generalize minus b0 o0 = mA at *
  obtain ⟨zA, gA⟩ := jA
  obtain ⟨yA, pA⟩ := mA
  simp only at A1 A2 lm
  clear lm
  rw [← put_same e0, ← put_same e35, ← put_same e36, ← put_same e5, ← box_same x5, ← put_same e7, ← box_same x7, ← put_same e8, ← box_same x8, ← put_same e11, ← box_same x11]
  clear e0 e35 e36 e5 x5 e7 x7 e8 x8 e11 x11
  unfold encL at *
  unfold b74_0 r74_5 r74_6 r74_7 r74_8 r74_9 r74_10 r74_11 r74_12 r74_13 r74_14
  cases pA with
  | false =>
    have ew := A1 rfl
    by_cases f : I64 (s0 + t0)
    · rw [if_pos f] at c5
      repeat' (first | refine call2 rfl rfl c3 ?_ | refine call2 rfl rfl c5 ?_ | refine w_seq ?_ | refine w_ops ?_ | refine w_opsD0 rfl ?_ | refine st_nil ?_ | refine th_n ?_ | refine th_r ?_ | refine bk_r ?_ | refine w_block ?_ | refine w_skip ?_ | refine w_ret ?_ | refine w_true rfl ?_ | refine w_false rfl ?_ | refine g_no rfl ?_ | refine mv_c rfl ?_ | refine pick_t rfl rfl ?_ | refine lss_t rfl rfl (by omega) ?_ | refine not_ rfl ?_ | refine build_ rfl rfl ?_ | refine load_ptr rfl (by decide) rfl (Nat.le_of_ble_eq_true rfl) rfl ?_ | refine store_ptr rfl rfl (by decide) rfl rfl (Nat.le_of_ble_eq_true rfl) rfl ?_ | refine fad_ptr rfl rfl rfl ?_ | refine iaA_ptr rfl rfl rfl (by omega) rfl ?_ | refine ext_ rfl rfl ?_)
      exact hn (by rw [ew]; simp) _ ⟨_, by rfl, by rfl, by rfl, by rfl⟩
    · rw [if_neg f] at c5
      repeat' (first | refine call2 rfl rfl c3 ?_ | refine call2 rfl rfl c5 ?_ | refine w_seq ?_ | refine w_ops ?_ | refine w_opsD0 rfl ?_ | refine st_nil ?_ | refine th_n ?_ | refine th_r ?_ | refine bk_r ?_ | refine w_block ?_ | refine w_skip ?_ | refine w_ret ?_ | refine w_true rfl ?_ | refine w_false rfl ?_ | refine g_no rfl ?_ | refine mv_c rfl ?_ | refine pick_t rfl rfl ?_ | refine lss_t rfl rfl (by omega) ?_ | refine not_ rfl ?_ | refine build_ rfl rfl ?_ | refine load_ptr rfl (by decide) rfl (Nat.le_of_ble_eq_true rfl) rfl ?_ | refine store_ptr rfl rfl (by decide) rfl rfl (Nat.le_of_ble_eq_true rfl) rfl ?_ | refine fad_ptr rfl rfl rfl ?_ | refine iaA_ptr rfl rfl rfl (by omega) rfl ?_ | refine ext_ rfl rfl ?_)
      exact hn (by rw [ew]; simp) _ ⟨_, by rfl, by rfl, by rfl, by rfl⟩
  | true =>
    have ew := A2 rfl
    cases gA with
    | false =>
      by_cases f : I64 (s0 + t0)
      · rw [if_pos f] at c5
        repeat' (first | refine call2 rfl rfl c3 ?_ | refine call2 rfl rfl c4 ?_ | refine call2 rfl rfl c5 ?_ | refine w_seq ?_ | refine w_ops ?_ | refine w_opsD0 rfl ?_ | refine st_nil ?_ | refine th_n ?_ | refine th_r ?_ | refine bk_r ?_ | refine w_block ?_ | refine w_skip ?_ | refine w_ret ?_ | refine w_true rfl ?_ | refine g_no rfl ?_ | refine mv_c rfl ?_ | refine pick_t rfl rfl ?_ | refine lss_t rfl rfl (by omega) ?_ | refine not_ rfl ?_ | refine build_ rfl rfl ?_ | refine load_ptr rfl (by decide) rfl (Nat.le_of_ble_eq_true rfl) rfl ?_ | refine store_ptr rfl rfl (by decide) rfl rfl (Nat.le_of_ble_eq_true rfl) rfl ?_ | refine fad_ptr rfl rfl rfl ?_ | refine iaA_ptr rfl rfl rfl (by omega) rfl ?_ | refine ext_ rfl rfl ?_)
        exact hn (by rw [ew]; simp) _ ⟨_, by rfl, by rfl, by rfl, by rfl⟩
      · rw [if_neg f] at c5
        repeat' (first | refine call2 rfl rfl c3 ?_ | refine call2 rfl rfl c4 ?_ | refine call2 rfl rfl c5 ?_ | refine w_seq ?_ | refine w_ops ?_ | refine w_opsD0 rfl ?_ | refine st_nil ?_ | refine th_n ?_ | refine th_r ?_ | refine bk_r ?_ | refine w_block ?_ | refine w_skip ?_ | refine w_ret ?_ | refine w_true rfl ?_ | refine g_no rfl ?_ | refine mv_c rfl ?_ | refine pick_t rfl rfl ?_ | refine lss_t rfl rfl (by omega) ?_ | refine not_ rfl ?_ | refine build_ rfl rfl ?_ | refine load_ptr rfl (by decide) rfl (Nat.le_of_ble_eq_true rfl) rfl ?_ | refine store_ptr rfl rfl (by decide) rfl rfl (Nat.le_of_ble_eq_true rfl) rfl ?_ | refine fad_ptr rfl rfl rfl ?_ | refine iaA_ptr rfl rfl rfl (by omega) rfl ?_ | refine ext_ rfl rfl ?_)
        exact hn (by rw [ew]; simp) _ ⟨_, by rfl, by rfl, by rfl, by rfl⟩
    | true =>
      by_cases f : I64 (s0 + t0)
      · rw [if_pos f] at c5
        repeat' (first | refine call2 rfl rfl c3 ?_ | refine call2 rfl rfl c4 ?_ | refine call2 rfl rfl c5 ?_ | refine w_seq ?_ | refine w_ops ?_ | refine w_opsD0 rfl ?_ | refine st_nil ?_ | refine th_n ?_ | refine bk_n ?_ | refine w_block ?_ | refine w_skip ?_ | refine w_true rfl ?_ | refine w_false rfl ?_ | refine g_yes rfl ?_ | refine mv_c rfl ?_ | refine pick_f rfl rfl ?_ | refine lss_t rfl rfl (by omega) ?_ | refine not_ rfl ?_ | refine add_in rfl rfl (by omega) ?_ | refine load_ptr rfl (by decide) rfl (Nat.le_of_ble_eq_true rfl) rfl ?_ | refine store_ptr rfl rfl (by decide) rfl rfl (Nat.le_of_ble_eq_true rfl) rfl ?_ | refine fad_ptr rfl rfl rfl ?_ | refine iaA_ptr rfl rfl rfl (by omega) rfl ?_ | refine ext_ rfl rfl ?_)
        refine hy (by rw [ew]) f _ ⟨_, _, _, _, by rfl, by rfl, by rfl, by rfl, by rfl, by rfl, by rfl, by rfl, by rfl, by rfl, ?_⟩
        rw [ew]
        rfl
      · rw [if_neg f] at c5
        repeat' (first | refine call2 rfl rfl c3 ?_ | refine call2 rfl rfl c4 ?_ | refine call2 rfl rfl c5 ?_ | refine w_seq ?_ | refine w_ops ?_ | refine w_opsD0 rfl ?_ | refine st_nil ?_ | refine th_n ?_ | refine th_r ?_ | refine bk_r ?_ | refine w_block ?_ | refine w_skip ?_ | refine w_ret ?_ | refine w_true rfl ?_ | refine g_yes rfl ?_ | refine mv_c rfl ?_ | refine pick_f rfl rfl ?_ | refine lss_t rfl rfl (by omega) ?_ | refine not_ rfl ?_ | refine build_ rfl rfl ?_ | refine load_ptr rfl (by decide) rfl (Nat.le_of_ble_eq_true rfl) rfl ?_ | refine store_ptr rfl rfl (by decide) rfl rfl (Nat.le_of_ble_eq_true rfl) rfl ?_ | refine fad_ptr rfl rfl rfl ?_ | refine iaA_ptr rfl rfl rfl (by omega) rfl ?_ | refine ext_ rfl rfl ?_)
        exact hn (fun h => f h.2) _ ⟨_, by rfl, by rfl, by rfl, by rfl⟩
theorem ap_1 {K : Ex → PS → Prop} (m n s0 s1 k t0 t1 : Int) (b0 b1 i0 i1 o0 o1 : List Run) (hm : 1 < m ∧ m ≤ 2) (hs : I64 s1) (ht : I64 t1) (lb : b1.length ≤ 400000) (lo : o1.length ≤ 400000) (li : i1.length ≤ 400000)
    (N x0 x1 y0 y1 : CV) (s : PS) (h : Ap m [.int .i64 n, .int .i64 s0, .int .i64 s1, encL b0, encL b1] [.int .i64 k, .int .i64 t0, .int .i64 t1, encL i0, encL i1, encL o0, encL o1] 1 [N, x0, x1, y0, y1] s)
    (hy : (swap b1 o1 i1).2 = true → I64 (s1 + t1) → ∀ s', Ap m [.int .i64 n, .int .i64 s0, .int .i64 s1, encL b0, encL b1] [.int .i64 k, .int .i64 t0, .int .i64 t1, encL i0, encL i1, encL o0, encL o1] 2 [N, x0, .int .i64 (s1 + t1), y0, encL (swap b1 o1 i1).1] s' → K .n s')
    (hn : ¬ ((swap b1 o1 i1).2 = true ∧ I64 (s1 + t1)) → ∀ s', ApF s' → K .r s') : wP (PCallG Try.prog) b74_0 s K := by
  obtain ⟨v5, v7, v8, v11, e0, e35, e36, e5, x5, e7, x7, e8, x8, e11, x11⟩ := h
  have lm := minusLen b1 o1
  have c3 := C_Minus b1 o1 (by omega) (by omega)
  have c4 := C_Join (minus b1 o1).1 i1 (by omega) (by omega)
  have c5 := C_Add s1 t1 hs ht
  have A1 : (minus b1 o1).2 = false → swap b1 o1 i1 = ([], false) := fun h => by unfold Go.Bag.swap; rw [h]; rfl
  have A2 : (minus b1 o1).2 = true → swap b1 o1 i1 = join (minus b1 o1).1 i1 := fun h => by unfold Go.Bag.swap; rw [h]; rfl
  generalize swap b1 o1 i1 = w at *
  generalize join (minus b1 o1).1 i1 = jA at *
  generalize minus b1 o1 = mA at *
  obtain ⟨zA, gA⟩ := jA
  obtain ⟨yA, pA⟩ := mA
  simp only at A1 A2 lm
  clear lm
  rw [← put_same e0, ← put_same e35, ← put_same e36, ← put_same e5, ← box_same x5, ← put_same e7, ← box_same x7, ← put_same e8, ← box_same x8, ← put_same e11, ← box_same x11]
  clear e0 e35 e36 e5 x5 e7 x7 e8 x8 e11 x11
  unfold encL at *
  unfold b74_0 r74_5 r74_6 r74_7 r74_8 r74_9 r74_10 r74_11 r74_12 r74_13 r74_14
  cases pA with
  | false =>
    have ew := A1 rfl
    by_cases f : I64 (s1 + t1)
    · rw [if_pos f] at c5
      repeat' (first | refine call2 rfl rfl c3 ?_ | refine call2 rfl rfl c5 ?_ | refine w_seq ?_ | refine w_ops ?_ | refine w_opsD0 rfl ?_ | refine st_nil ?_ | refine th_n ?_ | refine th_r ?_ | refine bk_r ?_ | refine w_block ?_ | refine w_skip ?_ | refine w_ret ?_ | refine w_true rfl ?_ | refine w_false rfl ?_ | refine g_no rfl ?_ | refine mv_c rfl ?_ | refine pick_t rfl rfl ?_ | refine lss_t rfl rfl (by omega) ?_ | refine not_ rfl ?_ | refine build_ rfl rfl ?_ | refine load_ptr rfl (by decide) rfl (Nat.le_of_ble_eq_true rfl) rfl ?_ | refine store_ptr rfl rfl (by decide) rfl rfl (Nat.le_of_ble_eq_true rfl) rfl ?_ | refine fad_ptr rfl rfl rfl ?_ | refine iaA_ptr rfl rfl rfl (by omega) rfl ?_ | refine ext_ rfl rfl ?_)
      exact hn (by rw [ew]; simp) _ ⟨_, by rfl, by rfl, by rfl, by rfl⟩
    · rw [if_neg f] at c5
      repeat' (first | refine call2 rfl rfl c3 ?_ | refine call2 rfl rfl c5 ?_ | refine w_seq ?_ | refine w_ops ?_ | refine w_opsD0 rfl ?_ | refine st_nil ?_ | refine th_n ?_ | refine th_r ?_ | refine bk_r ?_ | refine w_block ?_ | refine w_skip ?_ | refine w_ret ?_ | refine w_true rfl ?_ | refine w_false rfl ?_ | refine g_no rfl ?_ | refine mv_c rfl ?_ | refine pick_t rfl rfl ?_ | refine lss_t rfl rfl (by omega) ?_ | refine not_ rfl ?_ | refine build_ rfl rfl ?_ | refine load_ptr rfl (by decide) rfl (Nat.le_of_ble_eq_true rfl) rfl ?_ | refine store_ptr rfl rfl (by decide) rfl rfl (Nat.le_of_ble_eq_true rfl) rfl ?_ | refine fad_ptr rfl rfl rfl ?_ | refine iaA_ptr rfl rfl rfl (by omega) rfl ?_ | refine ext_ rfl rfl ?_)
      exact hn (by rw [ew]; simp) _ ⟨_, by rfl, by rfl, by rfl, by rfl⟩
  | true =>
    have ew := A2 rfl
    cases gA with
    | false =>
      by_cases f : I64 (s1 + t1)
      · rw [if_pos f] at c5
        repeat' (first | refine call2 rfl rfl c3 ?_ | refine call2 rfl rfl c4 ?_ | refine call2 rfl rfl c5 ?_ | refine w_seq ?_ | refine w_ops ?_ | refine w_opsD0 rfl ?_ | refine st_nil ?_ | refine th_n ?_ | refine th_r ?_ | refine bk_r ?_ | refine w_block ?_ | refine w_skip ?_ | refine w_ret ?_ | refine w_true rfl ?_ | refine g_no rfl ?_ | refine mv_c rfl ?_ | refine pick_t rfl rfl ?_ | refine lss_t rfl rfl (by omega) ?_ | refine not_ rfl ?_ | refine build_ rfl rfl ?_ | refine load_ptr rfl (by decide) rfl (Nat.le_of_ble_eq_true rfl) rfl ?_ | refine store_ptr rfl rfl (by decide) rfl rfl (Nat.le_of_ble_eq_true rfl) rfl ?_ | refine fad_ptr rfl rfl rfl ?_ | refine iaA_ptr rfl rfl rfl (by omega) rfl ?_ | refine ext_ rfl rfl ?_)
        exact hn (by rw [ew]; simp) _ ⟨_, by rfl, by rfl, by rfl, by rfl⟩
      · rw [if_neg f] at c5
        repeat' (first | refine call2 rfl rfl c3 ?_ | refine call2 rfl rfl c4 ?_ | refine call2 rfl rfl c5 ?_ | refine w_seq ?_ | refine w_ops ?_ | refine w_opsD0 rfl ?_ | refine st_nil ?_ | refine th_n ?_ | refine th_r ?_ | refine bk_r ?_ | refine w_block ?_ | refine w_skip ?_ | refine w_ret ?_ | refine w_true rfl ?_ | refine g_no rfl ?_ | refine mv_c rfl ?_ | refine pick_t rfl rfl ?_ | refine lss_t rfl rfl (by omega) ?_ | refine not_ rfl ?_ | refine build_ rfl rfl ?_ | refine load_ptr rfl (by decide) rfl (Nat.le_of_ble_eq_true rfl) rfl ?_ | refine store_ptr rfl rfl (by decide) rfl rfl (Nat.le_of_ble_eq_true rfl) rfl ?_ | refine fad_ptr rfl rfl rfl ?_ | refine iaA_ptr rfl rfl rfl (by omega) rfl ?_ | refine ext_ rfl rfl ?_)
        exact hn (by rw [ew]; simp) _ ⟨_, by rfl, by rfl, by rfl, by rfl⟩
    | true =>
      by_cases f : I64 (s1 + t1)
      · rw [if_pos f] at c5
        repeat' (first | refine call2 rfl rfl c3 ?_ | refine call2 rfl rfl c4 ?_ | refine call2 rfl rfl c5 ?_ | refine w_seq ?_ | refine w_ops ?_ | refine w_opsD0 rfl ?_ | refine st_nil ?_ | refine th_n ?_ | refine bk_n ?_ | refine w_block ?_ | refine w_skip ?_ | refine w_true rfl ?_ | refine w_false rfl ?_ | refine g_yes rfl ?_ | refine mv_c rfl ?_ | refine pick_f rfl rfl ?_ | refine lss_t rfl rfl (by omega) ?_ | refine not_ rfl ?_ | refine add_in rfl rfl (by omega) ?_ | refine load_ptr rfl (by decide) rfl (Nat.le_of_ble_eq_true rfl) rfl ?_ | refine store_ptr rfl rfl (by decide) rfl rfl (Nat.le_of_ble_eq_true rfl) rfl ?_ | refine fad_ptr rfl rfl rfl ?_ | refine iaA_ptr rfl rfl rfl (by omega) rfl ?_ | refine ext_ rfl rfl ?_)
        refine hy (by rw [ew]) f _ ⟨_, _, _, _, by rfl, by rfl, by rfl, by rfl, by rfl, by rfl, by rfl, by rfl, by rfl, by rfl, ?_⟩
        rw [ew]
        rfl
      · rw [if_neg f] at c5
        repeat' (first | refine call2 rfl rfl c3 ?_ | refine call2 rfl rfl c4 ?_ | refine call2 rfl rfl c5 ?_ | refine w_seq ?_ | refine w_ops ?_ | refine w_opsD0 rfl ?_ | refine st_nil ?_ | refine th_n ?_ | refine th_r ?_ | refine bk_r ?_ | refine w_block ?_ | refine w_skip ?_ | refine w_ret ?_ | refine w_true rfl ?_ | refine g_yes rfl ?_ | refine mv_c rfl ?_ | refine pick_f rfl rfl ?_ | refine lss_t rfl rfl (by omega) ?_ | refine not_ rfl ?_ | refine build_ rfl rfl ?_ | refine load_ptr rfl (by decide) rfl (Nat.le_of_ble_eq_true rfl) rfl ?_ | refine store_ptr rfl rfl (by decide) rfl rfl (Nat.le_of_ble_eq_true rfl) rfl ?_ | refine fad_ptr rfl rfl rfl ?_ | refine iaA_ptr rfl rfl rfl (by omega) rfl ?_ | refine ext_ rfl rfl ?_)
        exact hn (fun h => f h.2) _ ⟨_, by rfl, by rfl, by rfl, by rfl⟩
def q74 : PCode := match p74 with
  | .seq _ (.seq _ (.seq _ (.seq _ r))) => r
  | _ => .skip
theorem ap_end (m : Int) (X : Cell) (hX : inC 999999 X) (c d : List CV) (j : Int) (s : PS) (h : Ap m c d j (encC X) s) (r : Cell × Bool × Bool)
    (hr : r = if mayC m X (decide (X.n ≠ 0)) = true then (X, decide (X.n ≠ 0), true) else (zeroC, false, false)) : wP (PCallG Try.prog) q74 s (FinK rs74 (.c (aV r))) := by
  obtain ⟨v5, v7, v8, v11, e0, e35, e36, e5, x5, e7, x7, e8, x8, e11, x11⟩ := h
  have c7 := C_may m X (decide (X.n ≠ 0)) (inC_to hX (by omega))
  generalize mayC m X (decide (X.n ≠ 0)) = g at *
  obtain ⟨n, s0, s1, b0, b1⟩ := X
  unfold encCell encC at c7
  unfold encC at x11
  dsimp only at c7
  cases g with
  | false =>
    rw [if_neg (by simp)] at hr
    subst hr
    rw [← put_same e0, ← put_same e8, ← box_same x8, ← put_same e11, ← box_same x11]
    unfold q74
    unfold p74 r74_0 r74_1 r74_2 r74_3 r74_4 r74_15 r74_16 r74_17
    dsimp only
    repeat' (first | refine call3 rfl rfl rfl c7 ?_ | refine w_seq ?_ | refine w_ops ?_ | refine st_nil ?_ | refine th_n ?_ | refine th_r ?_ | refine w_ret ?_ | refine w_true rfl ?_ | refine mv_c rfl ?_ | refine ned_ rfl rfl ?_ | refine not_ rfl ?_ | refine build_ rfl rfl ?_ | refine load_ptr rfl (by decide) rfl (Nat.le_of_ble_eq_true rfl) rfl ?_ | refine store_ptr rfl rfl (by decide) rfl rfl (Nat.le_of_ble_eq_true rfl) rfl ?_ | refine fad_ptr rfl rfl rfl ?_)
    exact fin_r (rv_cell rfl rfl rfl rfl (rv_t rfl (rv_t rfl rv_nil))) rfl
  | true =>
    rw [if_pos rfl] at hr
    subst hr
    rw [← put_same e0, ← put_same e8, ← box_same x8, ← put_same e11, ← box_same x11]
    unfold q74
    unfold p74 r74_0 r74_1 r74_2 r74_3 r74_4 r74_15 r74_16 r74_17
    dsimp only
    repeat' (first | refine call3 rfl rfl rfl c7 ?_ | refine w_seq ?_ | refine w_ops ?_ | with_reducible refine lb_nil ?_ | with_reducible refine lb_x ?_ | refine lb_n rfl ?_ | refine lb_s rfl rfl ?_ | refine st_nil ?_ | refine th_n ?_ | refine w_skip ?_ | refine w_opsB0 rfl ?_ | refine w_ret ?_ | refine w_false rfl ?_ | refine mv_c rfl ?_ | refine ned_ rfl rfl ?_ | refine not_ rfl ?_ | refine load_ptr rfl (by decide) rfl (Nat.le_of_ble_eq_true rfl) rfl ?_ | refine store_ptr rfl rfl (by decide) rfl rfl (Nat.le_of_ble_eq_true rfl) rfl ?_ | refine fad_ptr rfl rfl rfl ?_)
    exact fin_r (rv_cell rfl rfl rfl rfl (rv_t rfl (rv_t rfl rv_nil))) rfl
theorem ap_fail {s' : PS} (h : ApF s') : FinK rs74 (.c (aV (zeroC, false, false))) .r s' := by
  obtain ⟨v8, e8, x8, e9, e10⟩ := h
  rw [← put_same e8, ← box_same x8, ← put_same e9, ← put_same e10]
  exact fin_r (rv_cell rfl rfl rfl rfl (rv_t rfl (rv_t rfl rv_nil))) rfl
theorem ap_x {K : Ex → PS → Prop} (m : Int) (c d cs : List CV) (s : PS) (h : Ap m c d m cs s) (hx : ∀ s', Ap m c d m cs s' → K (.x 0) s') : wP (PCallG Try.prog) b74_0 s K := by
  obtain ⟨v5, v7, v8, v11, e0, e35, e36, e5, x5, e7, x7, e8, x8, e11, x11⟩ := h
  rw [← put_same e0, ← put_same e35, ← put_same e36, ← put_same e5, ← box_same x5, ← put_same e7, ← box_same x7, ← put_same e8, ← box_same x8, ← put_same e11, ← box_same x11]
  unfold b74_0 r74_5 r74_6 r74_7 r74_8 r74_9 r74_10 r74_11 r74_12 r74_13 r74_14
  repeat' (first | refine w_seq ?_ | refine w_ops ?_ | refine st_nil ?_ | refine th_n ?_ | refine th_x ?_ | refine w_exit ?_ | refine w_false rfl ?_ | refine lss_f rfl rfl (by omega) ?_)
  exact hx _ ⟨_, _, _, _, by rfl, by rfl, by rfl, by rfl, by rfl, by rfl, by rfl, by rfl, by rfl, by rfl, by rfl⟩
theorem C_dApply (m : Int) (c : Cell) (is : Bool) (d : Delta) (hc : inC 400000 c) (hd : inD 400000 d) : PCallG Try.prog 74 [.c (.int .i64 m), .c (encCell c), .c (.bool is), .c (encDelta d)] (.c (aV (applyD m c is d))) [] := by
  have c1 := C_dGood m d (inD_to hd (by omega))
  have c2 := C_may m c is (inC_to hc (by omega))
  have hno : ¬ (goodD m d = true ∧ mayC m c is = true ∧ ((swap c.b0 d.o0 d.i0).2 = true ∧ (m = 2 → (swap c.b1 d.o1 d.i1).2 = true)) ∧ (in64 (c.s0 + d.s0) ∧ (m = 2 → in64 (c.s1 + d.s1))) ∧ mayC m (applyN m c d) (decide (c.n + d.n ≠ 0)) = true) → applyD m c is d = (zeroC, false, false) := fun h => by unfold applyD; rw [if_neg h]
  have hyes : (goodD m d = true ∧ mayC m c is = true ∧ ((swap c.b0 d.o0 d.i0).2 = true ∧ (m = 2 → (swap c.b1 d.o1 d.i1).2 = true)) ∧ (in64 (c.s0 + d.s0) ∧ (m = 2 → in64 (c.s1 + d.s1))) ∧ mayC m (applyN m c d) (decide (c.n + d.n ≠ 0)) = true) → applyD m c is d = (applyN m c d, decide (c.n + d.n ≠ 0), true) := fun h => by unfold applyD; rw [if_pos h]
  have hb := @mayC_is m c is
  refine pcallF Try.func74 c74 rfl ?_
  cases gd : goodD m d with
  | false =>
    rw [gd] at c1
    rw [hno (fun h => by rw [gd] at h; cases h.1)]
    clear hno hb hyes c2 hc hd
    obtain ⟨n, s0, s1, b0, b1⟩ := c
    obtain ⟨k, t0, t1, i0, i1, o0, o1⟩ := d
    unfold encDelta encD at *
    unfold encCell encC at *
    dsimp only at *
    unfold p74 r74_0 r74_1 r74_2 r74_3 r74_4 r74_15 r74_16 r74_17
    repeat' (first | refine call2 rfl rfl c1 ?_ | refine w_seq ?_ | refine w_ops ?_ | refine st_nil ?_ | refine th_n ?_ | refine th_r ?_ | refine w_ret ?_ | refine w_true rfl ?_ | refine g_no rfl ?_ | refine mv_c rfl ?_ | refine pick_t rfl rfl ?_ | refine not_ rfl ?_ | refine alloc_ (fun u => ?_) | refine box_ rfl rfl rfl (fun u => ?_) | refine build_ rfl rfl ?_ | refine load_ptr rfl (by decide) rfl (Nat.le_of_ble_eq_true rfl) rfl ?_ | refine store_ptr rfl rfl (by decide) rfl rfl (Nat.le_of_ble_eq_true rfl) rfl ?_)
    exact fin_r (rv_cell rfl rfl rfl rfl (rv_t rfl (rv_t rfl rv_nil))) rfl
  | true =>
    rw [gd] at c1
    cases gc : mayC m c is with
    | false =>
      rw [gc] at c2
      rw [hno (fun h => by rw [gc] at h; cases h.2.1)]
      clear hno hb hyes hc hd gc gd
      obtain ⟨n, s0, s1, b0, b1⟩ := c
      obtain ⟨k, t0, t1, i0, i1, o0, o1⟩ := d
      unfold encDelta encD at *
      unfold encCell encC at *
      dsimp only at *
      unfold p74 r74_0 r74_1 r74_2 r74_3 r74_4 r74_15 r74_16 r74_17
      repeat' (first | refine call2 rfl rfl c1 ?_ | refine call3 rfl rfl rfl c2 ?_ | refine w_seq ?_ | refine w_ops ?_ | refine st_nil ?_ | refine th_n ?_ | refine th_r ?_ | refine w_ret ?_ | refine w_true rfl ?_ | refine g_yes rfl ?_ | refine mv_c rfl ?_ | refine pick_f rfl rfl ?_ | refine not_ rfl ?_ | refine alloc_ (fun u => ?_) | refine box_ rfl rfl rfl (fun u => ?_) | refine build_ rfl rfl ?_ | refine load_ptr rfl (by decide) rfl (Nat.le_of_ble_eq_true rfl) rfl ?_ | refine store_ptr rfl rfl (by decide) rfl rfl (Nat.le_of_ble_eq_true rfl) rfl ?_)
      exact fin_r (rv_cell rfl rfl rfl rfl (rv_t rfl (rv_t rfl rv_nil))) rfl
    | true =>
      rw [gc] at c2
      obtain ⟨hm, hkk, _⟩ := goodD_iff.mp gd
      have hnn := (hb gc).2.2
      have hno' : ∀ {p : Prop}, ((goodD m d = true ∧ mayC m c is = true ∧ ((swap c.b0 d.o0 d.i0).2 = true ∧ (m = 2 → (swap c.b1 d.o1 d.i1).2 = true)) ∧ (in64 (c.s0 + d.s0) ∧ (m = 2 → in64 (c.s1 + d.s1))) ∧ mayC m (applyN m c d) (decide (c.n + d.n ≠ 0)) = true) → p) → ¬ p → applyD m c is d = (zeroC, false, false) := fun h hp => hno fun q => hp (h q)
      have hX : (swap c.b0 d.o0 d.i0).2 = true → I64 (c.s0 + d.s0) → (m = 2 → (swap c.b1 d.o1 d.i1).2 = true ∧ I64 (c.s1 + d.s1)) →
          inC 999999 (applyN m c d) ∧ applyD m c is d = if mayC m (applyN m c d) (decide ((applyN m c d).n ≠ 0)) = true then (applyN m c d, decide ((applyN m c d).n ≠ 0), true) else (zeroC, false, false) := by
        intro h1 h2 h3
        refine ⟨?_, ?_⟩
        · have q0 := inB_swap (o := d.o0) (⟨hc.2.2.2.1, hc.2.2.2.2.2.1⟩ : inB 400000 c.b0) hd.2.2.2.1
          have q1 := inB_swap (o := d.o1) (⟨hc.2.2.2.2.1, hc.2.2.2.2.2.2⟩ : inB 400000 c.b1) hd.2.2.2.2.1
          unfold applyN
          by_cases hm2 : m = 2
          · simp only [if_pos hm2]
            exact ⟨⟨by show -9223372036854775808 ≤ c.n + d.n; omega, by show c.n + d.n ≤ 9223372036854775807; omega⟩, h2, (h3 hm2).2, q0.1, q1.1, by have := q0.2; show (swap c.b0 d.o0 d.i0).1.length ≤ 999999; omega, by have := q1.2; show (swap c.b1 d.o1 d.i1).1.length ≤ 999999; omega⟩
          · simp only [if_neg hm2]
            exact ⟨⟨by show -9223372036854775808 ≤ c.n + d.n; omega, by show c.n + d.n ≤ 9223372036854775807; omega⟩, h2, by show in64 0; decide, q0.1, (inB_nil 0).1, by have := q0.2; show (swap c.b0 d.o0 d.i0).1.length ≤ 999999; omega, by simp⟩
        · split
          · rename_i hh
            exact hyes ⟨gd, gc, ⟨h1, fun e => (h3 e).1⟩, ⟨h2, fun e => (h3 e).2⟩, hh⟩
          · rename_i hh
            exact hno fun q => hh q.2.2.2.2
      have n1 : ¬ ((swap c.b0 d.o0 d.i0).2 = true ∧ I64 (c.s0 + d.s0)) → applyD m c is d = (zeroC, false, false) := fun h => hno fun q => h ⟨q.2.2.1.1, q.2.2.2.1.1⟩
      have n2 : m = 2 → ¬ ((swap c.b1 d.o1 d.i1).2 = true ∧ I64 (c.s1 + d.s1)) → applyD m c is d = (zeroC, false, false) := fun e h => hno fun q => h ⟨q.2.2.1.2 e, q.2.2.2.1.2 e⟩
      clear hno hno' hyes hb gd gc
      obtain ⟨n, s0, s1, b0, b1⟩ := c
      obtain ⟨k, t0, t1, i0, i1, o0, o1⟩ := d
      obtain ⟨hn, hs0, hs1, hr0, hr1, hl0, hl1⟩ := hc
      obtain ⟨hk, ht0, ht1, xi0, xi1, xo0, xo1⟩ := hd
      simp only at hs0 hs1 hl0 hl1 ht0 ht1 xi0 xi1 xo0 xo1 hX n1 n2 hkk hnn
      have li0 := xi0.2
      have li1 := xi1.2
      have lo0 := xo0.2
      have lo1 := xo1.2
      clear hn hk hr0 hr1 xi0 xi1 xo0 xo1
      generalize applyD m ⟨n, s0, s1, b0, b1⟩ is ⟨k, t0, t1, i0, i1, o0, o1⟩ = r at *
      unfold encDelta encD at c1
      unfold encCell encC at c2
      have last : ∀ X : Cell, inC 999999 X → (r = if mayC m X (decide (X.n ≠ 0)) = true then (X, decide (X.n ≠ 0), true) else (zeroC, false, false)) → ∀ s', Ap m [.int .i64 n, .int .i64 s0, .int .i64 s1, encL b0, encL b1] [.int .i64 k, .int .i64 t0, .int .i64 t1, encL i0, encL i1, encL o0, encL o1] m (encC X) s' → wP (PCallG Try.prog) q74 s' (FinK rs74 (.c (aV r))) :=
        fun X iX hr s' h => ap_end m X iX _ _ m s' h r hr
      show wP _ p74 (initPS [.c (.int .i64 m), .c (.agg [.int .i64 n, .int .i64 s0, .int .i64 s1, encL b0, encL b1]), .c (.bool is), .c (.agg [.int .i64 k, .int .i64 t0, .int .i64 t1, encL i0, encL i1, encL o0, encL o1])]) _
      have fail : r = (zeroC, false, false) → ∀ s', ApF s' → FinK rs74 (.c (aV r)) .r s' := fun e s' h => by rw [e]; exact ap_fail h
      unfold p74 r74_0 r74_1 r74_2 r74_3 r74_4 r74_15 r74_16 r74_17
      repeat' (first | refine w_cut74 (p := .seq (.ops false r74_4) _) (fun s' => ∃ X, inC 999999 X ∧ (r = if mayC m X (decide (X.n ≠ 0)) = true then (X, decide (X.n ≠ 0), true) else (zeroC, false, false)) ∧ Ap m [.int .i64 n, .int .i64 s0, .int .i64 s1, encL b0, encL b1] [.int .i64 k, .int .i64 t0, .int .i64 t1, encL i0, encL i1, encL o0, encL o1] m (encC X) s') ?_ (fun s' h => by obtain ⟨X, iX, hr, h⟩ := h; exact last X iX hr s' h) | refine call2 rfl rfl c1 ?_ | refine call3 rfl rfl rfl c2 ?_ | refine w_seq ?_ | refine w_ops ?_ | refine st_nil ?_ | refine th_n ?_ | refine w_block ?_ | refine w_skip ?_ | refine w_false rfl ?_ | refine g_yes rfl ?_ | refine mv_c rfl ?_ | refine pick_f rfl rfl ?_ | refine not_ rfl ?_ | refine add_in rfl rfl (by omega) ?_ | refine alloc_ (fun u => ?_) | refine box_ rfl rfl rfl (fun u => ?_) | refine build_ rfl rfl ?_ | refine load_ptr rfl (by decide) rfl (Nat.le_of_ble_eq_true rfl) rfl ?_ | refine store_ptr rfl rfl (by decide) rfl rfl (Nat.le_of_ble_eq_true rfl) rfl ?_ | refine fad_ptr rfl rfl rfl ?_)
      refine w_loop ?_
      refine ap_0 m n s0 s1 k t0 t1 b0 b1 i0 i1 o0 o1 ⟨by omega, by omega⟩ hs0 ht0 hl0 lo0 li0 _ _ _ _ _ _ ⟨_, _, _, _, by rfl, by rfl, by rfl, by rfl, by rfl, by rfl, by rfl, by rfl, by rfl, by rfl, by rfl⟩ ?_ (fun h s' hF => th_r (bk_r (th_r (fail (n1 h) s' hF))))
      intro h1 h2 s' hA
      refine th_n ?_
      refine w_loop ?_
      by_cases hm2 : m = 2
      · refine ap_1 m n s0 s1 k t0 t1 b0 b1 i0 i1 o0 o1 ⟨by omega, by omega⟩ hs1 ht1 hl1 lo1 li1 _ _ _ _ _ _ hA ?_ (fun h s' hF => th_r (bk_r (th_r (fail (n2 hm2 h) s' hF))))
        intro h3 h4 s2 hA2
        refine th_n ?_
        refine w_loop ?_
        refine ap_x m _ _ _ _ (by rw [hm2] at hA2 ⊢; exact hA2) ?_
        intro s3 hA3
        refine th_x ?_
        refine bk_x ?_
        refine th_n ?_
        have := hX h1 h2 (fun _ => ⟨h3, h4⟩)
        refine ⟨_, this.1, this.2, ?_⟩
        unfold applyN
        simp only [if_pos hm2]
        exact hA3
      · have hm1 : m = 1 := by omega
        refine ap_x m _ _ _ _ (by rw [hm1] at hA ⊢; exact hA) ?_
        intro s3 hA3
        refine th_x ?_
        refine bk_x ?_
        refine th_n ?_
        have := hX h1 h2 (fun e => absurd e hm2)
        refine ⟨_, this.1, this.2, ?_⟩
        unfold applyN
        simp only [if_neg hm2]
        exact hA3
end Go.Proofs.Ytcmejdkjfekoeaa
namespace Go.Proofs.Ytcmejdkjfekoeaa
open Go.Pl Go.Bag
set_option maxHeartbeats 16000000
set_option maxRecDepth 100000
def two (b : Bool) (x y : CV) : List CV := match b with | false => [x, y] | true => [y, x]
end Go.Proofs.Ytcmejdkjfekoeaa
namespace Go.Proofs.Ytcmejdkjfekoeaa
open Go.Pl Go.Bag
set_option maxHeartbeats 16000000
set_option maxRecDepth 100000
/-! ### the document's deltas -/
end Go.Proofs.Ytcmejdkjfekoeaa
namespace Go.Proofs.Ytcmejdkjfekoeaa
open Go.Pl Go.Bag
set_option maxHeartbeats 32000000
set_option maxRecDepth 100000
end Go.Proofs.Ytcmejdkjfekoeaa
namespace Go.Proofs.Ytcmejdkjfekoeaa
open Go.Pl Go.Bag
set_option maxHeartbeats 32000000
set_option maxRecDepth 100000
theorem mkD_1 {m n : Int} {i0 i1 o0 o1 j1 q1 : List Run} (hm : m ≠ 2) : mkD m n i0 i1 o0 o1 = mkD m n i0 j1 o0 q1 := by
  unfold mkD; simp only [hm, if_false, false_implies]
end Go.Proofs.Ytcmejdkjfekoeaa
namespace Go.Proofs.Ytcmejdkjfekoeaa
open Go.Pl Go.Bag
set_option maxHeartbeats 16000000
set_option maxRecDepth 100000
def d5 : Delta := ⟨1, 5, 0, [(5, 1)], [], [], []⟩
def n5 : Delta := ⟨-1, -5, 0, [], [], [(5, 1)], []⟩
def c5_ : Cell := ⟨1, 5, 0, [(5, 1)], []⟩
theorem C_wakes10 : PCallG Try.prog 58 [] (.c (.bool true)) [] := by
  refine pcallF Try.func58 c58 rfl ?_
  have b1 : inB 1 [((5 : Int), (1 : Int))] := inB_one (by decide)
  have hd : inD 1 d5 := ⟨by decide, by decide, by decide, b1, inB_nil _, inB_nil _, inB_nil _⟩
  have hn : inD 1 n5 := ⟨by decide, by decide, by decide, inB_nil _, inB_nil _, b1, inB_nil _⟩
  have hc : inC 1 c5_ := ⟨by decide, by decide, by decide, b1.1, (inB_nil 0).1, by decide, by decide⟩
  have g1 : goodD 1 d5 = true := by decide
  have g2 : goodD 1 n5 = true := by decide
  have e1 : ofD 1 false ⟨⟨0, 0, 0, 0⟩, 5, 0⟩ = (d5, true) := by decide
  have e2 : negD 1 d5 = (n5, true) := by decide
  have e3 : ofC 1 [⟨⟨0, 0, 0, 0⟩, 5, 0⟩] = (c5_, true) := by rw [ofC_one (by decide) _ (by decide) (by decide)]; rfl
  have s0 : swap [((5 : Int), (1 : Int))] [(5, 1)] [] = ([], true) := by
    unfold Go.Bag.swap
    rw [show minus [((5 : Int), (1 : Int))] [(5, 1)] = ([], true) by decide]
    exact join_nil (a := []) (by decide)
  have ea : applyN 1 c5_ n5 = zeroC := by
    show Cell.mk (1 + -1) (5 + -5) (if (1 : Int) = 2 then _ else 0) (swap [(5, 1)] [(5, 1)] []).1 (if (1 : Int) = 2 then _ else []) = _
    rw [s0]; rfl
  have e4 : applyD 1 c5_ true n5 = (zeroC, false, true) := by
    unfold applyD
    rw [if_pos ⟨g2, by decide, ⟨by show (swap [((5 : Int), (1 : Int))] [(5, 1)] []).2 = true; rw [s0], fun h => by cases h⟩, ⟨by decide, fun h => by cases h⟩, by rw [ea]; decide⟩, ea]
    decide
  have j1 : join [((5 : Int), (1 : Int))] [] = ([(5, 1)], true) := join_nil (by decide)
  have j2 : join [] [((5 : Int), (1 : Int))] = ([(5, 1)], true) := by rw [join_comm]; exact join_nil (by decide)
  have e5 : joinD 1 d5 n5 = (zeroD, true) := by
    unfold joinD
    rw [if_pos ⟨g1, g2, by show (join [((5 : Int), (1 : Int))] []).2 = true; rw [j1], by show (join [] [((5 : Int), (1 : Int))]).2 = true; rw [j2], fun h => by cases h⟩]
    show mkD 1 (1 + -1) (join [(5, 1)] []).1 _ (join [] [(5, 1)]).1 _ = _
    rw [j1, j2, mkD_1 (j1 := []) (q1 := []) (by decide)]
    decide
  have e6 : betweenD 1 zeroC false c5_ true = (d5, true) := by decide
  have c1 : PCallG Try.prog 59 [.c (.int .i64 1), .c (encCh false ⟨⟨0, 0, 0, 0⟩, 5, 0⟩)] (.c (.tup [encDelta d5, .bool true])) [] := by
    have := C_dOf 1 false ⟨⟨0, 0, 0, 0⟩, 5, 0⟩ (by decide) (by decide); rw [e1] at this; exact this
  have c2 : PCallG Try.prog 63 [.c (.int .i64 1), .c (encDelta d5)] (.c (.tup [encDelta n5, .bool true])) [] := by
    have := C_dNeg 1 d5 (inD_to hd (by omega)); rw [e2] at this; exact this
  have c3 : PCallG Try.prog 45 [.c (.int .i64 1), .c (encRows [⟨⟨0, 0, 0, 0⟩, 5, 0⟩])] (.c (.tup [encCell c5_, .bool true])) [] := by
    have := C_cOf 1 [⟨⟨0, 0, 0, 0⟩, 5, 0⟩] (by decide) (by intro r hr; obtain rfl := List.mem_singleton.mp hr; exact ⟨by decide, by decide⟩); rw [e3] at this; exact this
  have c4 : PCallG Try.prog 74 [.c (.int .i64 1), .c (encCell c5_), .c (.bool true), .c (encDelta n5)] (.c (.tup [encCell zeroC, .bool false, .bool true])) [] := by
    have := C_dApply 1 c5_ true n5 (inC_to hc (by omega)) (inD_to hn (by omega)); rw [e4] at this; exact this
  have c6 : PCallG Try.prog 69 [.c (.int .i64 1), .c (encDelta d5), .c (encDelta n5)] (.c (.tup [encDelta zeroD, .bool true])) [] := by
    have := C_dJoin 1 d5 n5 (inD_to hd (by omega)) (inD_to hn (by omega)); rw [e5] at this; exact this
  have c7 : PCallG Try.prog 76 [.c (.int .i64 1), .c (encCell zeroC), .c (.bool false), .c (encCell c5_), .c (.bool true)] (.c (.tup [encDelta d5, .bool true])) [] := by
    have := C_dBetween 1 zeroC c5_ false true (inC_zero _) (inC_to hc (by omega)); rw [e6] at this; exact this
  have c8 : PCallG Try.prog 67 [.c (.int .i64 1), .c (encDelta zeroD)] (.c (.bool true)) [] := by
    have := C_dIdle 1 zeroD (inD_zero _); rw [show idleD 1 zeroD = true by decide] at this; exact this
  have c9 : PCallG Try.prog 67 [.c (.int .i64 1), .c (encDelta d5)] (.c (.bool false)) [] := by
    have := C_dIdle 1 d5 (inD_to hd (by omega)); rw [show idleD 1 d5 = false by decide] at this; exact this
  have c10 : PCallG Try.prog 71 [.c (encDelta d5), .c (encDelta d5)] (.c (.bool true)) [] := by
    have := C_dSame d5 d5 (inD_len hd (by omega)) (inD_len hd (by omega)); rw [decide_eq_true rfl] at this; exact this
  have c11 : PCallG Try.prog 65 [.c (.int .i64 1), .c (encDelta d5)] (.c (.bool true)) [] := by
    have := C_dGood 1 d5 (inD_to hd (by omega)); rw [g1] at this; exact this
  have c12 : PCallG Try.prog 65 [.c (.int .i64 2), .c (encDelta d5)] (.c (.bool false)) [] := by
    have := C_dGood 2 d5 (inD_to hd (by omega)); rw [show goodD 2 d5 = false by decide] at this; exact this
  unfold p58 r58_0 r58_1 r58_2 r58_3 r58_4 r58_5 r58_6 r58_7 r58_8 r58_9
  repeat' (first | refine call2 rfl rfl c1 ?_ | refine call2 rfl rfl c2 ?_ | refine call2 rfl rfl c3 ?_ | refine call4 rfl rfl rfl rfl c4 ?_ | refine call3 rfl rfl rfl c6 ?_ | refine call5 rfl rfl rfl rfl rfl c7 ?_ | refine call2 rfl rfl c8 ?_ | refine call2 rfl rfl c9 ?_ | refine call2 rfl rfl c10 ?_ | refine call2 rfl rfl c11 ?_ | refine call2 rfl rfl c12 ?_ | refine len_sl (n := 1) rfl rfl ?_ | refine w_seq ?_ | refine w_ops ?_ | refine st_nil ?_ | refine th_n ?_ | refine w_ret ?_ | refine g_yes rfl ?_ | refine mv_c rfl ?_ | refine pick_t rfl rfl ?_ | refine eql_t rfl rfl (by omega) ?_ | refine eqd_ rfl rfl ?_ | refine not_ rfl ?_ | refine alloc_ (fun u => ?_) | refine build_ rfl rfl ?_ | refine bsl_ rfl rfl ?_ | refine load_ptr rfl (by decide) rfl (Nat.le_of_ble_eq_true rfl) rfl ?_ | refine store_ptr rfl rfl (by decide) rfl rfl (Nat.le_of_ble_eq_true rfl) rfl ?_ | refine fad_ptr rfl rfl rfl ?_ | refine iaA_ptr rfl rfl rfl (by omega) rfl ?_ | refine ext_ rfl rfl ?_)
  exact fin_r rfl rfl
end Go.Proofs.Ytcmejdkjfekoeaa

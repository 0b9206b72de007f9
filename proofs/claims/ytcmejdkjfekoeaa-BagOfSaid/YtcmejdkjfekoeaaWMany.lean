import Derived.Test.YtcmejdkjfekoeaaWEnds
import Derived.Test.YtcmejdkjfekoeaaMBag7
import Derived.Test.YtcmejdkjfekoeaaWJoin
import Derived.Test.YtcmejdkjfekoeaaPlStep2
namespace Go.Proofs.Ytcmejdkjfekoeaa
open Go.Pl Go.Bag
set_option maxHeartbeats 8000000

theorem good_one {v n : Int} (h : 1 ≤ n ∧ n ≤ 1099511627776) : good [(v, n)] = true :=
  good_iff.mpr ⟨by simp [asc], fun q hq => by simp at hq; subst hq; exact h.1, by simp [sum, cap]; exact h.2⟩

theorem C_BagMany (v w n : Int) (hn : 0 ≤ n ∧ n ≤ 18446744073709551615) : PCallG Try.prog 4 [.c (.int .i64 v), .c (.int .i64 w), .c (.int .u64 n)] (.c (.bool true)) [] := by
  refine pcallF Try.func4 c4 rfl ?_
  have hw := C_wakes8
  have h0 : cap = 1099511627776 := rfl
  have hk1 : 0 ≤ n % 1099511627776 := by omega
  have hk2 : n % 1099511627776 < 1099511627776 := by omega
  generalize hk : n % 1099511627776 = k at hk1 hk2
  have g1 : good [(v, 1099511627776 - k)] = true := good_one (by omega)
  have c1 : PCallG Try.prog 26 [.c (encL [(v, 1099511627776 - k)])] (.c (.bool true)) [] := by
    have := C_good [(v, 1099511627776 - k)] (by simp)
    rw [g1] at this; exact this
  have c2 : PCallG Try.prog 26 [.c (encL [(v, 1099511627777)])] (.c (.bool false)) [] := by
    have := C_good [(v, 1099511627777)] (by simp)
    have e : good [(v, 1099511627777)] = false := by simp [good, goodFrom, cap]
    rw [e] at this; exact this
  have c3 : PCallG Try.prog 25 [.c (encL [(v, 1099511627776 - k)]), .c (encL [(w, k + 1)])] (.c (.tup [encL [], .bool false])) [] := by
    have := C_Join [(v, 1099511627776 - k)] [(w, k + 1)] (by simp) (by simp)
    rw [join_no (by simp [sum, cap]; omega)] at this; exact this
  have c4 : ∀ b, (k = 0 → b = []) → (k ≠ 0 → b = [(w, k)]) → ∃ o, PCallG Try.prog 25 [.c (encL [(v, 1099511627776 - k)]), .c (encL b)] (.c (.tup [encL o, .bool true])) [] ∧ PCallG Try.prog 27 [.c (encL o)] (.c (.int .i64 1099511627776)) [] := by
    intro b b0 b1
    have gb : good b = true ∧ sum b = k ∧ b.length ≤ 1 := by
      by_cases hk0 : k = 0
      · rw [b0 hk0]; exact ⟨rfl, by simp [sum, hk0], by simp⟩
      · rw [b1 hk0]; exact ⟨good_one (by omega), by simp [sum], by simp⟩
    obtain ⟨o, h1, h2, h3, h4⟩ := join_ok g1 gb.1 (by simp only [sum]; omega)
    have hj := C_Join [(v, 1099511627776 - k)] b (by simp) (by omega)
    have ho : o.length < 1000 := by
      have : o = merge [] [(v, 1099511627776 - k)] b := by
        have e : (join [(v, 1099511627776 - k)] b).1 = o := by rw [h1]
        rw [← e]; unfold join
        rw [if_pos ⟨g1, gb.1, by simp only [sum]; omega⟩]
      rw [this]
      have hl : ∀ (m : Nat) (out a b : List Run), a.length + b.length = m → (merge out a b).length ≤ out.length + m := by
        intro m
        induction m with
        | zero => intro out a b hm; obtain rfl : a = [] := List.eq_nil_of_length_eq_zero (by omega); obtain rfl : b = [] := List.eq_nil_of_length_eq_zero (by omega); simp [merge]
        | succ m ih =>
          intro out a b hm
          match a, b, hm with
          | [], s :: b, hm => rw [show merge out [] (s :: b) = merge (moreL out s.1 s.2) [] b by simp only [merge]]; have := ih (moreL out s.1 s.2) [] b (by simpa using hm); have := moreL_len out s.1 s.2; omega
          | r :: a, [], hm => rw [show merge out (r :: a) [] = merge (moreL out r.1 r.2) a [] by simp only [merge]]; have := ih (moreL out r.1 r.2) a [] (by simpa using hm); have := moreL_len out r.1 r.2; omega
          | r :: a, s :: b, hm =>
            rw [merge]
            split
            · have := ih (moreL out s.1 s.2) (r :: a) b (by simp at hm ⊢; omega); have := moreL_len out s.1 s.2; omega
            · have := ih (moreL out r.1 r.2) a (s :: b) (by simp at hm ⊢; omega); have := moreL_len out r.1 r.2; omega
      have := hl _ [] [(v, 1099511627776 - k)] b rfl
      simp at this; omega
    have hc := C_Count o (by omega)
    rw [h2] at hc
    refine ⟨o, by rw [h1] at hj; exact hj, ?_⟩
    have e : sum o = 1099511627776 := by rw [h3, gb.2.1]; simp only [sum]; omega
    rw [e] at hc; exact hc
  unfold p4 r4_0 r4_1 r4_2 r4_3 r4_4 r4_5 r4_6 r4_7 r4_8 r4_9
  by_cases hk0 : k = 0
  · obtain ⟨o, j1, j2⟩ := c4 [] (fun _ => rfl) (fun h => absurd hk0 h)
    repeat' (first
      | refine rem_nn rfl rfl (by omega) (by omega) ?_
      | refine w_seq ?_
      | refine w_ops ?_
      | refine st_nil ?_
      | refine th_n ?_
      | refine th_r ?_
      | refine w_skip ?_
      | refine w_ret ?_
      | refine w_true rfl ?_
      | refine w_false rfl ?_
      | refine w_condd rfl (fun hc => ?_) (fun hc => ?_)
      | refine w_cond rfl (fun hc => ?_) (fun hc => ?_)
      | refine g_yes rfl ?_
      | refine g_no rfl ?_
      | refine g_no' rfl ?_
      | refine g_un rfl ?_
      | refine g_un' rfl ?_
      | refine g_splitd rfl (fun hg => ?_) (fun hg => ?_)
      | refine g_split rfl (fun hg => ?_) (fun hg => ?_)
      | refine mv_c rfl ?_
      | refine mv_ptr rfl ?_
      | refine mv_rp rfl ?_
      | refine mv_osl rfl ?_
      | refine mv_sp rfl ?_
      | refine mv_undef rfl ?_
      | refine pick_t rfl rfl ?_
      | refine pick_f rfl rfl ?_
      | refine eql_t rfl rfl (by omega) ?_
      | refine eql_f rfl rfl (by omega) ?_
      | refine eqd_ rfl rfl ?_
      | refine notd_ rfl ?_
      | refine not_ rfl ?_
      | refine addu_in rfl rfl (by omega) ?_
      | refine subu_in rfl rfl (by omega) ?_
      | refine conv_in rfl (wrapu_in (by omega)) ?_
      | refine conv_u rfl ?_
      | refine conv_in rfl (wrap64_in (by omega)) ?_
      | refine conv_s rfl (wrap64_hi (by omega)) ?_
      | refine add_in rfl rfl (by omega) ?_
      | refine sub_in rfl rfl (by omega) ?_
      | refine build_ rfl rfl ?_
      | refine bsl_ rfl rfl ?_
      | refine bsl_own rfl rfl rfl (fun u => ?_)
      | refine ext_ rfl rfl ?_
      | refine conv_ rfl ?_
      | refine un_ rfl rfl ?_
      | refine addu_ rfl rfl ?_
      | refine subu_ rfl rfl ?_
      | refine bin_ rfl rfl rfl ?_)
    rw [hk]
    repeat' (first
      | refine call2 rfl rfl j1 ?_
      | refine call2 rfl rfl c3 ?_
      | refine call1 rfl c1 ?_
      | refine call1 rfl c2 ?_
      | refine call1 rfl j2 ?_
      | refine call0 hw ?_
      | refine w_seq ?_
      | refine w_ops ?_
      | refine st_nil ?_
      | refine th_n ?_
      | refine th_r ?_
      | refine w_skip ?_
      | refine w_ret ?_
      | refine w_true rfl ?_
      | refine w_false rfl ?_
      | refine w_condd rfl (fun hc => ?_) (fun hc => ?_)
      | refine w_cond rfl (fun hc => ?_) (fun hc => ?_)
      | refine g_yes rfl ?_
      | refine g_no rfl ?_
      | refine g_no' rfl ?_
      | refine g_un rfl ?_
      | refine g_un' rfl ?_
      | refine g_splitd rfl (fun hg => ?_) (fun hg => ?_)
      | refine g_split rfl (fun hg => ?_) (fun hg => ?_)
      | refine mv_c rfl ?_
      | refine mv_ptr rfl ?_
      | refine mv_rp rfl ?_
      | refine mv_osl rfl ?_
      | refine mv_sp rfl ?_
      | refine mv_undef rfl ?_
      | refine pick_t rfl rfl ?_
      | refine pick_f rfl rfl ?_
      | refine eql_t rfl rfl (by omega) ?_
      | refine eql_f rfl rfl (by omega) ?_
      | refine eqd_ rfl rfl ?_
      | refine notd_ rfl ?_
      | refine not_ rfl ?_
      | refine addu_in rfl rfl (by omega) ?_
      | refine subu_in rfl rfl (by omega) ?_
      | refine conv_in rfl (wrapu_in (by omega)) ?_
      | refine conv_u rfl ?_
      | refine conv_in rfl (wrap64_in (by omega)) ?_
      | refine conv_s rfl (wrap64_hi (by omega)) ?_
      | refine add_in rfl rfl (by omega) ?_
      | refine sub_in rfl rfl (by omega) ?_
      | refine build_ rfl rfl ?_
      | refine bsl_ rfl rfl ?_
      | refine bsl_own rfl rfl rfl (fun u => ?_)
      | refine ext_ rfl rfl ?_
      | refine conv_ rfl ?_
      | refine un_ rfl rfl ?_
      | refine addu_ rfl rfl ?_
      | refine subu_ rfl rfl ?_
      | refine bin_ rfl rfl rfl ?_)
    exact fin_r rfl rfl
  · obtain ⟨o, j1, j2⟩ := c4 [(w, k)] (fun h => absurd h hk0) (fun _ => rfl)
    repeat' (first
      | refine rem_nn rfl rfl (by omega) (by omega) ?_
      | refine w_seq ?_
      | refine w_ops ?_
      | refine st_nil ?_
      | refine th_n ?_
      | refine th_r ?_
      | refine w_skip ?_
      | refine w_ret ?_
      | refine w_true rfl ?_
      | refine w_false rfl ?_
      | refine w_condd rfl (fun hc => ?_) (fun hc => ?_)
      | refine w_cond rfl (fun hc => ?_) (fun hc => ?_)
      | refine g_yes rfl ?_
      | refine g_no rfl ?_
      | refine g_no' rfl ?_
      | refine g_un rfl ?_
      | refine g_un' rfl ?_
      | refine g_splitd rfl (fun hg => ?_) (fun hg => ?_)
      | refine g_split rfl (fun hg => ?_) (fun hg => ?_)
      | refine mv_c rfl ?_
      | refine mv_ptr rfl ?_
      | refine mv_rp rfl ?_
      | refine mv_osl rfl ?_
      | refine mv_sp rfl ?_
      | refine mv_undef rfl ?_
      | refine pick_t rfl rfl ?_
      | refine pick_f rfl rfl ?_
      | refine eql_t rfl rfl (by omega) ?_
      | refine eql_f rfl rfl (by omega) ?_
      | refine eqd_ rfl rfl ?_
      | refine notd_ rfl ?_
      | refine not_ rfl ?_
      | refine addu_in rfl rfl (by omega) ?_
      | refine subu_in rfl rfl (by omega) ?_
      | refine conv_in rfl (wrapu_in (by omega)) ?_
      | refine conv_u rfl ?_
      | refine conv_in rfl (wrap64_in (by omega)) ?_
      | refine conv_s rfl (wrap64_hi (by omega)) ?_
      | refine add_in rfl rfl (by omega) ?_
      | refine sub_in rfl rfl (by omega) ?_
      | refine build_ rfl rfl ?_
      | refine bsl_ rfl rfl ?_
      | refine bsl_own rfl rfl rfl (fun u => ?_)
      | refine ext_ rfl rfl ?_
      | refine conv_ rfl ?_
      | refine un_ rfl rfl ?_
      | refine addu_ rfl rfl ?_
      | refine subu_ rfl rfl ?_
      | refine bin_ rfl rfl rfl ?_)
    rw [hk]
    repeat' (first
      | refine call2 rfl rfl j1 ?_
      | refine call2 rfl rfl c3 ?_
      | refine call1 rfl c1 ?_
      | refine call1 rfl c2 ?_
      | refine call1 rfl j2 ?_
      | refine call0 hw ?_
      | refine w_seq ?_
      | refine w_ops ?_
      | refine st_nil ?_
      | refine th_n ?_
      | refine th_r ?_
      | refine w_skip ?_
      | refine w_ret ?_
      | refine w_true rfl ?_
      | refine w_false rfl ?_
      | refine w_condd rfl (fun hc => ?_) (fun hc => ?_)
      | refine w_cond rfl (fun hc => ?_) (fun hc => ?_)
      | refine g_yes rfl ?_
      | refine g_no rfl ?_
      | refine g_no' rfl ?_
      | refine g_un rfl ?_
      | refine g_un' rfl ?_
      | refine g_splitd rfl (fun hg => ?_) (fun hg => ?_)
      | refine g_split rfl (fun hg => ?_) (fun hg => ?_)
      | refine mv_c rfl ?_
      | refine mv_ptr rfl ?_
      | refine mv_rp rfl ?_
      | refine mv_osl rfl ?_
      | refine mv_sp rfl ?_
      | refine mv_undef rfl ?_
      | refine pick_t rfl rfl ?_
      | refine pick_f rfl rfl ?_
      | refine eql_t rfl rfl (by omega) ?_
      | refine eql_f rfl rfl (by omega) ?_
      | refine eqd_ rfl rfl ?_
      | refine notd_ rfl ?_
      | refine not_ rfl ?_
      | refine addu_in rfl rfl (by omega) ?_
      | refine subu_in rfl rfl (by omega) ?_
      | refine conv_in rfl (wrapu_in (by omega)) ?_
      | refine conv_u rfl ?_
      | refine conv_in rfl (wrap64_in (by omega)) ?_
      | refine conv_s rfl (wrap64_hi (by omega)) ?_
      | refine add_in rfl rfl (by omega) ?_
      | refine sub_in rfl rfl (by omega) ?_
      | refine build_ rfl rfl ?_
      | refine bsl_ rfl rfl ?_
      | refine bsl_own rfl rfl rfl (fun u => ?_)
      | refine ext_ rfl rfl ?_
      | refine conv_ rfl ?_
      | refine un_ rfl rfl ?_
      | refine addu_ rfl rfl ?_
      | refine subu_ rfl rfl ?_
      | refine bin_ rfl rfl rfl ?_)
    exact fin_r rfl rfl

theorem ok_i64 {c : CV} (h : LF.Ok (.int .i64) c) : ∃ a, c = .int .i64 a ∧ I64 a := by
  cases h with
  | int _ a hw => exact ⟨a, rfl, by simpa [Lit.wf, IntKind.min, IntKind.max, IntKind.signed, IntKind.bits, I64] using hw⟩
theorem ok_u64 {c : CV} (h : LF.Ok (.int .u64) c) : ∃ a, c = .int .u64 a ∧ 0 ≤ a ∧ a ≤ 18446744073709551615 := by
  cases h with
  | int _ a hw => exact ⟨a, rfl, by simpa [Lit.wf, IntKind.min, IntKind.max, IntKind.signed, IntKind.bits] using hw⟩

theorem L_BagMany (c0 : CV) (h0 : LF.Ok (.int .i64) c0) (c1 : CV) (h1 : LF.Ok (.int .i64) c1) (c2 : CV) (h2 : LF.Ok (.int .u64) c2) : PCallG Try.prog 4 [.c c0, .c c1, .c c2] (.c (.bool true)) [] := by
  obtain ⟨v, rfl, _⟩ := ok_i64 h0
  obtain ⟨w, rfl, _⟩ := ok_i64 h1
  obtain ⟨n, rfl, hn⟩ := ok_u64 h2
  exact C_BagMany v w n hn
end Go.Proofs.Ytcmejdkjfekoeaa

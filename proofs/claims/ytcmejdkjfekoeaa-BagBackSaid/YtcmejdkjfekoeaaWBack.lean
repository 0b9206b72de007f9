import Derived.Test.YtcmejdkjfekoeaaWMany
namespace Go.Proofs.Ytcmejdkjfekoeaa
open Go.Pl Go.Bag
set_option maxHeartbeats 8000000

theorem C_BagBack (a b : List Int) (ha : a.length ≤ 9223372036854775807) (hb : b.length ≤ 9223372036854775807) : PCallG Try.prog 6 [.c (encIL a), .c (encIL b)] (.c (.bool true)) [] := by
  refine pcallF Try.func6 c6 rfl ?_
  have hw := C_wakes8
  unfold p6 r6_0 r6_1 r6_2 r6_3 r6_4 r6_5 r6_6 r6_7 r6_8
  by_cases h1 : a.length ≤ 100
  · by_cases h2 : b.length ≤ 100
    · have la := (ofL_facts a).2.2.2.2
      have lb := (ofL_facts b).2.2.2.2
      have lab := (ofL_facts (a ++ b)).2.2.2.2
      rw [List.length_append] at lab
      have c1 := C_Of a (by omega)
      have c2 := C_Of b (by omega)
      have c3 := C_Join (ofL a) (ofL b) (by omega) (by omega)
      have c4 := C_Join (ofL b) (ofL a) (by omega) (by omega)
      have c5 := C_Minus (ofL (a ++ b)) (ofL b) (by omega) (by omega)
      have c6 := C_Minus (ofL a) (ofL a) (by omega) (by omega)
      have c7 := C_Of (a ++ b) (by simp; omega)
      rw [join_ofL (by omega) (by omega)] at c3 c4
      rw [ofL_perm (List.perm_append_comm (l₁ := b) (l₂ := a))] at c4
      rw [minus_ofL2 (by omega) (by omega)] at c5
      rw [minus_self (by omega)] at c6
      have d1 : PCallG Try.prog 29 [.c (encL (ofL (a ++ b))), .c (encL (ofL (a ++ b)))] (.c (.bool true)) [] := by
        have := C_Same (ofL (a ++ b)) (ofL (a ++ b)) (by omega) (by omega)
        rw [decide_eq_true rfl] at this; exact this
      have d2 : PCallG Try.prog 29 [.c (encL (ofL a)), .c (encL (ofL a))] (.c (.bool true)) [] := by
        have := C_Same (ofL a) (ofL a) (by omega) (by omega)
        rw [decide_eq_true rfl] at this; exact this
      have c7' : PCallG Try.prog 21 [.c (.sl (a.map encI ++ b.map encI))] (.c (encL (ofL (a ++ b)))) [] := by rw [← List.map_append]; exact c7
      have w1 : ∀ e ∈ a.map encI, e.length = 1 := fun e he => by obtain ⟨x, _, rfl⟩ := List.mem_map.mp he; rfl
      have w2 : ∀ e ∈ b.map encI, e.length = 1 := fun e he => by obtain ⟨x, _, rfl⟩ := List.mem_map.mp he; rfl
      have z1 : ([] : List (List CV)).length + (a.map encI).length ≤ maxGrow := by simp [maxGrow]; omega
      have z2 : (a.map encI).length + (b.map encI).length ≤ maxGrow := by simp [maxGrow]; omega
      repeat' (first
        | refine len_sl rfl (List.length_map _) ?_
        | refine call1 rfl c1 ?_
        | refine call1 rfl c2 ?_
        | refine call2 rfl rfl c3 ?_
        | refine call2 rfl rfl c4 ?_
        | refine call2 rfl rfl c5 ?_
        | refine call2 rfl rfl c6 ?_
        | refine call1 rfl c7' ?_
        | refine call2 rfl rfl d1 ?_
        | refine call2 rfl rfl d2 ?_
        | refine app_own rfl rfl rfl rfl z1 w1 (List.nil_append _) rfl (fun _ _ => ?_)
        | refine app_cl rfl rfl rfl rfl z2 w2 rfl (fun _ => ?_)
        | refine call0 hw ?_
        | refine len_sl (es := []) rfl rfl ?_
        | refine w_seq ?_
        | refine w_ops ?_
        | refine st_nil ?_
        | refine th_n ?_
        | refine th_r ?_
        | refine w_skip ?_
        | refine w_ret ?_
        | refine w_true rfl ?_
        | refine w_false rfl ?_
        | refine w_condd rfl (fun hc => ?_) (fun hc => ?_)
        | refine w_cond rfl (fun hc => ?_) (fun hc => ?_)
        | refine g_yes rfl ?_
        | refine g_no rfl ?_
        | refine g_no' rfl ?_
        | refine g_un rfl ?_
        | refine g_un' rfl ?_
        | refine g_splitd rfl (fun hg => ?_) (fun hg => ?_)
        | refine g_split rfl (fun hg => ?_) (fun hg => ?_)
        | refine mv_c rfl ?_
        | refine mv_ptr rfl ?_
        | refine mv_rp rfl ?_
        | refine mv_osl rfl ?_
        | refine mv_sp rfl ?_
        | refine mv_undef rfl ?_
        | refine pick_t rfl rfl ?_
        | refine pick_f rfl rfl ?_
        | refine gtr_t rfl rfl (by omega) ?_
        | refine gtr_f rfl rfl (by omega) ?_
        | refine gtr_ rfl rfl ?_
        | refine eql_t rfl rfl (by omega) ?_
        | refine eql_f rfl rfl (by omega) ?_
        | refine eqd_ rfl rfl ?_
        | refine bsl_ rfl rfl ?_
        | refine bsl_own rfl rfl rfl (fun u => ?_)
        | refine ext_ rfl rfl ?_
        | refine len_sl rfl (by first | assumption | exact List.length_map _) ?_
        | refine len_sl rfl rfl ?_
        | refine len_osl rfl rfl ?_
        | refine len_osl rfl rfl ?_
        | refine app_own rfl rfl rfl rfl (by first | assumption | omega | (simp; omega)) (by first | (intro e he; cases List.mem_singleton.mp he; rfl) | assumption) rfl rfl (fun _ _ => ?_)
        | refine app_cl rfl rfl rfl rfl (by first | assumption | omega | (simp; omega)) (by first | (intro e he; cases List.mem_singleton.mp he; rfl) | assumption) rfl (fun u => ?_)
        | refine bin_ rfl rfl rfl ?_)
      exact fin_r rfl rfl
    · repeat' (first
      | refine len_sl rfl (List.length_map _) ?_
      | refine call0 hw ?_
      | refine w_seq ?_
      | refine w_ops ?_
      | refine st_nil ?_
      | refine th_n ?_
      | refine th_r ?_
      | refine w_skip ?_
      | refine w_ret ?_
      | refine w_true rfl ?_
      | refine w_false rfl ?_
      | refine w_condd rfl (fun hc => ?_) (fun hc => ?_)
      | refine w_cond rfl (fun hc => ?_) (fun hc => ?_)
      | refine g_yes rfl ?_
      | refine g_no rfl ?_
      | refine g_no' rfl ?_
      | refine g_un rfl ?_
      | refine g_un' rfl ?_
      | refine g_splitd rfl (fun hg => ?_) (fun hg => ?_)
      | refine g_split rfl (fun hg => ?_) (fun hg => ?_)
      | refine mv_c rfl ?_
      | refine mv_ptr rfl ?_
      | refine mv_rp rfl ?_
      | refine mv_osl rfl ?_
      | refine mv_sp rfl ?_
      | refine mv_undef rfl ?_
      | refine pick_t rfl rfl ?_
      | refine pick_f rfl rfl ?_
      | refine gtr_t rfl rfl (by omega) ?_
      | refine gtr_f rfl rfl (by omega) ?_
      | refine gtr_ rfl rfl ?_
      | refine eql_t rfl rfl (by omega) ?_
      | refine eql_f rfl rfl (by omega) ?_
      | refine eqd_ rfl rfl ?_
      | refine bsl_ rfl rfl ?_
      | refine bsl_own rfl rfl rfl (fun u => ?_)
      | refine ext_ rfl rfl ?_
      | refine len_sl rfl (by first | assumption | exact List.length_map _) ?_
      | refine len_sl rfl rfl ?_
      | refine len_osl rfl rfl ?_
      | refine len_osl rfl rfl ?_
      | refine app_own rfl rfl rfl rfl (by first | assumption | omega | (simp; omega)) (by first | (intro e he; cases List.mem_singleton.mp he; rfl) | assumption) rfl rfl (fun _ _ => ?_)
      | refine app_cl rfl rfl rfl rfl (by first | assumption | omega | (simp; omega)) (by first | (intro e he; cases List.mem_singleton.mp he; rfl) | assumption) rfl (fun u => ?_)
      | refine bin_ rfl rfl rfl ?_)
      exact fin_r rfl rfl
  · repeat' (first
    | refine len_sl rfl (List.length_map _) ?_
    | refine call0 hw ?_
    | refine w_seq ?_
    | refine w_ops ?_
    | refine st_nil ?_
    | refine th_n ?_
    | refine th_r ?_
    | refine w_skip ?_
    | refine w_ret ?_
    | refine w_true rfl ?_
    | refine w_false rfl ?_
    | refine w_condd rfl (fun hc => ?_) (fun hc => ?_)
    | refine w_cond rfl (fun hc => ?_) (fun hc => ?_)
    | refine g_yes rfl ?_
    | refine g_no rfl ?_
    | refine g_no' rfl ?_
    | refine g_un rfl ?_
    | refine g_un' rfl ?_
    | refine g_splitd rfl (fun hg => ?_) (fun hg => ?_)
    | refine g_split rfl (fun hg => ?_) (fun hg => ?_)
    | refine mv_c rfl ?_
    | refine mv_ptr rfl ?_
    | refine mv_rp rfl ?_
    | refine mv_osl rfl ?_
    | refine mv_sp rfl ?_
    | refine mv_undef rfl ?_
    | refine pick_t rfl rfl ?_
    | refine pick_f rfl rfl ?_
    | refine gtr_t rfl rfl (by omega) ?_
    | refine gtr_f rfl rfl (by omega) ?_
    | refine gtr_ rfl rfl ?_
    | refine eql_t rfl rfl (by omega) ?_
    | refine eql_f rfl rfl (by omega) ?_
    | refine eqd_ rfl rfl ?_
    | refine bsl_ rfl rfl ?_
    | refine bsl_own rfl rfl rfl (fun u => ?_)
    | refine ext_ rfl rfl ?_
    | refine len_sl rfl (by first | assumption | exact List.length_map _) ?_
    | refine len_sl rfl rfl ?_
    | refine len_osl rfl rfl ?_
    | refine len_osl rfl rfl ?_
    | refine app_own rfl rfl rfl rfl (by first | assumption | omega | (simp; omega)) (by first | (intro e he; cases List.mem_singleton.mp he; rfl) | assumption) rfl rfl (fun _ _ => ?_)
    | refine app_cl rfl rfl rfl rfl (by first | assumption | omega | (simp; omega)) (by first | (intro e he; cases List.mem_singleton.mp he; rfl) | assumption) rfl (fun u => ?_)
    | refine bin_ rfl rfl rfl ?_)
    exact fin_r rfl rfl

theorem L_BagBack (c0 : CV) (h0 : LF.Ok (.sl [.int .i64]) c0) (c1 : CV) (h1 : LF.Ok (.sl [.int .i64]) c1) : PCallG Try.prog 6 [.c c0, .c c1] (.c (.bool true)) [] := by
  obtain ⟨a, rfl, _, ha⟩ := ok_ints h0
  obtain ⟨b, rfl, _, hb⟩ := ok_ints h1
  exact C_BagBack a b ha hb
end Go.Proofs.Ytcmejdkjfekoeaa

import Derived.Test.YtcmejdkjfekoeaaWGood
namespace Go.Proofs.Ytcmejdkjfekoeaa
open Go.Pl Go.Bag
set_option maxHeartbeats 4000000

theorem count_loop {C : CallP} {K : Ex → PS → Prop} (l : List Run) (hlen : l.length < 4611686018427387904) : ∀ (rest : List Run) (i : Nat) (acc : Int) (s : PS), l.drop i = rest → i ≤ l.length → pos rest → 0 ≤ acc → acc + sum rest ≤ 1099511627776 →
    s.t 6 = .c (encL l) → s.t 7 = .c (.int .i64 l.length) → s.t 8 = .c (.int .i64 i) → s.t 3 = .c (.int .i64 acc) →
    (∀ s', s'.t 3 = .c (.int .i64 (acc + sum rest)) → K (.x 0) s') → wP C (.loop b86_0) s K := by
  intro rest
  induction rest with
  | nil =>
    intro i acc s hd hi hp h0 h1 t6 t7 t8 t3 hx
    refine w_loop ?_
    have := get_end hd hi
    subst this
    rw [← put_same t7, ← put_same t8, ← put_same t3]
    unfold b86_0 r86_3 r86_4 r86_5 r86_6
    repeat' (first
      | refine w_seq ?_
      | refine w_ops ?_
      | refine st_nil ?_
      | refine th_n ?_
      | refine th_x ?_
      | refine th_r ?_
      | refine bk_n ?_
      | refine bk_r ?_
      | refine bk_x ?_
      | refine bk_y (by decide) ?_
      | refine w_block ?_
      | refine w_skip ?_
      | refine w_exit ?_
      | refine w_true rfl ?_
      | refine w_false rfl ?_
      | refine w_condd rfl (fun hc => ?_) (fun hc => ?_)
      | refine w_cond rfl (fun hc => ?_) (fun hc => ?_)
      | refine mv_c rfl ?_
      | refine mv_ptr rfl ?_
      | refine mv_rp rfl ?_
      | refine mv_osl rfl ?_
      | refine mv_sp rfl ?_
      | refine mv_undef rfl ?_
      | refine lss_t rfl rfl (by omega) ?_
      | refine lss_f rfl rfl (by omega) ?_
      | refine lss_ rfl rfl ?_
      | refine addu_in rfl rfl (by omega) ?_
      | refine add_in rfl rfl (by omega) ?_
      | refine alloc_ (fun u => ?_)
      | refine load_rp rfl (Nat.le_of_ble_eq_true rfl) rfl ?_
      | refine load_ptr rfl (by decide) rfl (Nat.le_of_ble_eq_true rfl) rfl ?_
      | refine load_sp rfl (by decide) rfl (by assumption) (Nat.le_of_ble_eq_true rfl) rfl ?_
      | refine store_ptr rfl rfl (by decide) rfl rfl (Nat.le_of_ble_eq_true rfl) rfl ?_
      | refine store_sp rfl rfl (by decide) rfl (by assumption) rfl (Nat.le_of_ble_eq_true rfl) rfl ?_
      | refine fad_ptr rfl rfl rfl ?_
      | refine fad_rp rfl (Nat.le_of_ble_eq_true rfl) rfl ?_
      | refine fad_sp rfl rfl rfl ?_
      | refine iaS_c rfl rfl (by omega) (by assumption) rfl ?_
      | refine iaS_osl rfl rfl rfl (by omega) rfl ?_
      | refine iaS_osl rfl rfl rfl (by first | omega | (simp; omega)) rfl ?_
      | refine addu_ rfl rfl ?_
      | refine bin_ rfl rfl rfl ?_)
    exact hx _ (by simp [sum]; rfl)
  | cons r rest ih =>
    intro i acc s hd hi hp h0 h1 t6 t7 t8 t3 hx
    refine w_loop ?_
    have he := get_enc hd
    have hl := get_len hd
    have hn := get_next hd
    have hr := hp r (by simp)
    have hp' : pos rest := fun q hq => hp q (by simp [hq])
    have hs := sum_nonneg hp'
    have e : acc + sum (r :: rest) = acc + r.2 + sum rest := by simp only [sum]; omega
    rw [e] at h1 hx
    rw [← put_same t6, ← put_same t7, ← put_same t8, ← put_same t3]
    unfold b86_0 r86_3 r86_4 r86_5 r86_6
    repeat' (first
      | refine w_seq ?_
      | refine w_ops ?_
      | refine st_nil ?_
      | refine th_n ?_
      | refine th_x ?_
      | refine th_r ?_
      | refine bk_n ?_
      | refine bk_r ?_
      | refine bk_x ?_
      | refine bk_y (by decide) ?_
      | refine w_block ?_
      | refine w_skip ?_
      | refine w_exit ?_
      | refine w_true rfl ?_
      | refine w_false rfl ?_
      | refine w_condd rfl (fun hc => ?_) (fun hc => ?_)
      | refine w_cond rfl (fun hc => ?_) (fun hc => ?_)
      | refine mv_c rfl ?_
      | refine mv_ptr rfl ?_
      | refine mv_rp rfl ?_
      | refine mv_osl rfl ?_
      | refine mv_sp rfl ?_
      | refine mv_undef rfl ?_
      | refine lss_t rfl rfl (by omega) ?_
      | refine lss_f rfl rfl (by omega) ?_
      | refine lss_ rfl rfl ?_
      | refine addu_in rfl rfl (by omega) ?_
      | refine add_in rfl rfl (by omega) ?_
      | refine alloc_ (fun u => ?_)
      | refine load_rp rfl (Nat.le_of_ble_eq_true rfl) rfl ?_
      | refine load_ptr rfl (by decide) rfl (Nat.le_of_ble_eq_true rfl) rfl ?_
      | refine load_sp rfl (by decide) rfl (by assumption) (Nat.le_of_ble_eq_true rfl) rfl ?_
      | refine store_ptr rfl rfl (by decide) rfl rfl (Nat.le_of_ble_eq_true rfl) rfl ?_
      | refine store_sp rfl rfl (by decide) rfl (by assumption) rfl (Nat.le_of_ble_eq_true rfl) rfl ?_
      | refine fad_ptr rfl rfl rfl ?_
      | refine fad_rp rfl (Nat.le_of_ble_eq_true rfl) rfl ?_
      | refine fad_sp rfl rfl rfl ?_
      | refine iaS_c rfl rfl (by omega) (by assumption) rfl ?_
      | refine iaS_osl rfl rfl rfl (by omega) rfl ?_
      | refine iaS_osl rfl rfl rfl (by first | omega | (simp; omega)) rfl ?_
      | refine addu_ rfl rfl ?_
      | refine bin_ rfl rfl rfl ?_)
    exact ih (i + 1) (acc + r.2) _ hn (by omega) hp' (by omega) (by omega) rfl rfl rfl rfl hx

theorem C_count (l : List Run) (hlen : l.length < 4611686018427387904) (hp : pos l) (hs : sum l ≤ 1099511627776) : PCallG Try.prog 86 [.c (encL l)] (.c (.int .i64 (sum l))) [] := by
  refine pcallF Try.func86 c86 rfl ?_
  unfold p86 r86_0 r86_1 r86_2 r86_7
  repeat' (first
    | refine w_seq ?_
    | refine w_ops ?_
    | refine st_nil ?_
    | refine th_n ?_
    | refine th_r ?_
    | refine bk_n ?_
    | refine bk_r ?_
    | refine bk_x ?_
    | refine bk_y (by decide) ?_
    | refine w_block ?_
    | refine w_ret ?_
    | refine mv_c rfl ?_
    | refine mv_ptr rfl ?_
    | refine mv_rp rfl ?_
    | refine mv_osl rfl ?_
    | refine mv_sp rfl ?_
    | refine mv_undef rfl ?_
    | refine len_sl rfl (by first | assumption | exact List.length_map _) ?_
    | refine len_sl rfl rfl ?_
    | refine len_osl rfl rfl ?_
    | refine len_osl rfl rfl ?_)
  refine count_loop l hlen l 0 0 _ rfl (by omega) hp (by omega) (by omega) rfl rfl rfl rfl (fun s' h3 => ?_)
  rw [← put_same h3]
  repeat' (first
    | refine w_seq ?_
    | refine w_ops ?_
    | refine st_nil ?_
    | refine th_n ?_
    | refine th_r ?_
    | refine bk_n ?_
    | refine bk_r ?_
    | refine bk_x ?_
    | refine bk_y (by decide) ?_
    | refine w_block ?_
    | refine w_ret ?_
    | refine mv_c rfl ?_
    | refine mv_ptr rfl ?_
    | refine mv_rp rfl ?_
    | refine mv_osl rfl ?_
    | refine mv_sp rfl ?_
    | refine mv_undef rfl ?_
    | refine len_sl rfl (by first | assumption | exact List.length_map _) ?_
    | refine len_sl rfl rfl ?_
    | refine len_osl rfl rfl ?_
    | refine len_osl rfl rfl ?_)
  exact fin_r rfl (by simp [one_])

theorem C_Count (l : List Run) (hlen : l.length < 4611686018427387904) : PCallG Try.prog 27 [.c (encL l)] (.c (.int .i64 (if good l then sum l else 0))) [] := by
  refine pcallF Try.func27 c27 rfl ?_
  unfold p27 r27_0 r27_1 r27_2 r27_3
  by_cases hg : good l = true
  · obtain ⟨hp, hs⟩ := good_facts hg
    have hC := C_good l hlen
    rw [hg] at hC
    repeat' (first
      | refine call1 rfl hC ?_
      | refine call1 rfl (C_count l hlen hp hs) ?_
      | refine w_seq ?_
      | refine w_ops ?_
      | refine st_nil ?_
      | refine th_n ?_
      | refine th_r ?_
      | refine w_skip ?_
      | refine w_ret ?_
      | refine w_true rfl ?_
      | refine w_false rfl ?_
      | refine w_condd rfl (fun hc => ?_) (fun hc => ?_)
      | refine w_cond rfl (fun hc => ?_) (fun hc => ?_)
      | refine mv_c rfl ?_
      | refine mv_ptr rfl ?_
      | refine mv_rp rfl ?_
      | refine mv_osl rfl ?_
      | refine mv_sp rfl ?_
      | refine mv_undef rfl ?_
      | refine notd_ rfl ?_
      | refine not_ rfl ?_
      | refine un_ rfl rfl ?_)
    exact fin_r rfl (by simp [one_, hg])
  · simp only [Bool.not_eq_true] at hg
    have hC := C_good l hlen
    rw [hg] at hC
    repeat' (first
      | refine call1 rfl hC ?_
      | refine w_seq ?_
      | refine w_ops ?_
      | refine st_nil ?_
      | refine th_n ?_
      | refine th_r ?_
      | refine w_skip ?_
      | refine w_ret ?_
      | refine w_true rfl ?_
      | refine w_false rfl ?_
      | refine w_condd rfl (fun hc => ?_) (fun hc => ?_)
      | refine w_cond rfl (fun hc => ?_) (fun hc => ?_)
      | refine mv_c rfl ?_
      | refine mv_ptr rfl ?_
      | refine mv_rp rfl ?_
      | refine mv_osl rfl ?_
      | refine mv_sp rfl ?_
      | refine mv_undef rfl ?_
      | refine notd_ rfl ?_
      | refine not_ rfl ?_
      | refine un_ rfl rfl ?_)
    exact fin_r rfl (by simp [one_, hg])
end Go.Proofs.Ytcmejdkjfekoeaa

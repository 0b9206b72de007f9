import Derived.Test.YtcmejdkjfekoeaaMBag
import Derived.Test.YtcmejdkjfekoeaaCBag
namespace Go.Proofs.Ytcmejdkjfekoeaa
open Go.Pl Go.Bag
set_option maxHeartbeats 4000000

theorem good_loop {C : CallP} {K : Ex → PS → Prop} (l : List Run) (hlen : l.length < 4611686018427387904) : ∀ (rest : List Run) (i : Nat) (sum : Int) (p : Option Int) (s : PS), l.drop i = rest → i ≤ l.length → 0 ≤ sum → sum ≤ 1099511627776 →
    (i = 0 → p = none) → (0 < i → ∃ q, (l.map encR)[((i : Int) - 1).toNat]? = some (encR q) ∧ p = some q.1) →
    s.t 0 = .c (encL l) → s.t 6 = .c (encL l) → s.t 7 = .c (.int .i64 l.length) → s.t 8 = .c (.int .i64 i) → s.t 3 = .c (.int .i64 sum) →
    (goodFrom p sum rest = true → ∀ s', K (.x 0) s') → (goodFrom p sum rest = false → ∀ s', s'.t 2 = .c (.bool false) → K .r s') → wP C (.loop b26_0) s K := by
  intro rest
  induction rest with
  | nil =>
    intro i sum p s hd hi h0 h1 hp0 hp1 t0 t6 t7 t8 t3 hx hr
    refine w_loop ?_
    have := get_end hd hi
    subst this
    rw [← put_same t7, ← put_same t8]
    unfold b26_0 r26_3 r26_4 r26_5 r26_6 r26_7 r26_8
    repeat' (first
      | refine w_seq ?_
      | refine w_ops ?_
      | refine w_opsD0 rfl ?_
      | refine w_opsD1 rfl (fun u => ?_)
      | refine w_opsD2 rfl (fun u u => ?_)
      | refine w_opsD3 rfl (fun u u u => ?_)
      | refine w_opsD4 rfl (fun u u u u => ?_)
      | refine st_nil ?_
      | refine th_n ?_
      | refine th_x ?_
      | refine th_r ?_
      | refine bk_n ?_
      | refine bk_r ?_
      | refine bk_x ?_
      | refine bk_y (by decide) ?_
      | refine w_block ?_
      | refine w_skip ?_
      | refine w_exit ?_
      | refine w_ret ?_
      | refine w_true rfl ?_
      | refine w_false rfl ?_
      | refine w_condd rfl (fun hc => ?_) (fun hc => ?_)
      | refine w_cond rfl (fun hc => ?_) (fun hc => ?_)
      | refine g_yes rfl ?_
      | refine g_no rfl ?_
      | refine g_no' rfl ?_
      | refine g_un rfl ?_
      | refine g_un' rfl ?_
      | refine g_splitd rfl (fun hg => ?_) (fun hg => ?_)
      | refine g_split rfl (fun hg => ?_) (fun hg => ?_)
      | refine mv_c rfl ?_
      | refine mv_ptr rfl ?_
      | refine mv_rp rfl ?_
      | refine mv_osl rfl ?_
      | refine mv_sp rfl ?_
      | refine mv_undef rfl ?_
      | refine pick_t rfl rfl ?_
      | refine pick_f rfl rfl ?_
      | refine lss_t rfl rfl (by omega) ?_
      | refine lss_f rfl rfl (by omega) ?_
      | refine lss_ rfl rfl ?_
      | refine gtr_t rfl rfl (by omega) ?_
      | refine gtr_f rfl rfl (by omega) ?_
      | refine gtr_ rfl rfl ?_
      | refine geq_t rfl rfl (by omega) ?_
      | refine geq_f rfl rfl (by omega) ?_
      | refine geq_ rfl rfl ?_
      | refine addu_in rfl rfl (by omega) ?_
      | refine subu_in rfl rfl (by omega) ?_
      | refine add_in rfl rfl (by omega) ?_
      | refine sub_in rfl rfl (by omega) ?_
      | refine alloc_ (fun u => ?_)
      | refine load_rp rfl (Nat.le_of_ble_eq_true rfl) rfl ?_
      | refine load_ptr rfl (by decide) rfl (Nat.le_of_ble_eq_true rfl) rfl ?_
      | refine load_sp rfl (by decide) rfl (by assumption) (Nat.le_of_ble_eq_true rfl) rfl ?_
      | refine store_ptr rfl rfl (by decide) rfl rfl (Nat.le_of_ble_eq_true rfl) rfl ?_
      | refine store_sp rfl rfl (by decide) rfl (by assumption) rfl (Nat.le_of_ble_eq_true rfl) rfl ?_
      | refine fad_ptr rfl rfl rfl ?_
      | refine fad_rp rfl (Nat.le_of_ble_eq_true rfl) rfl ?_
      | refine fad_sp rfl rfl rfl ?_
      | refine iaS_c rfl rfl (by omega) (by assumption) rfl ?_
      | refine iaS_osl rfl rfl rfl (by omega) rfl ?_
      | refine iaS_osl rfl rfl rfl (by first | omega | (simp; omega)) rfl ?_
      | refine addu_ rfl rfl ?_
      | refine subu_ rfl rfl ?_
      | refine bin_ rfl rfl rfl ?_)
    exact hx rfl _
  | cons r rest ih =>
    intro i sum p s hd hi h0 h1 hp0 hp1 t0 t6 t7 t8 t3 hx hr
    refine w_loop ?_
    have he := get_enc hd
    have hl := get_len hd
    have hn := get_next hd
    rw [← put_same t0, ← put_same t6, ← put_same t7, ← put_same t8, ← put_same t3]
    unfold b26_0 r26_3 r26_4 r26_5 r26_6 r26_7 r26_8
    have next : ∀ s'', (p.any (fun a => decide (r.1 ≤ a)) = false) → 1 ≤ r.2 → r.2 ≤ 1099511627776 - sum → s''.t 0 = .c (encL l) → s''.t 6 = .c (encL l) → s''.t 7 = .c (.int .i64 l.length) → s''.t 8 = .c (.int .i64 (i + 1)) → s''.t 3 = .c (.int .i64 (sum + r.2)) → wP C (.loop b26_0) s'' K := by
      intro s'' g1 g2 g3 u0 u6 u7 u8 u3
      have e : goodFrom p sum (r :: rest) = goodFrom (some r.1) (sum + r.2) rest := by
        have : ¬ r.2 < 1 := by omega
        have : ¬ cap - sum < r.2 := by unfold cap; omega
        simp [goodFrom, *]
      rw [e] at hx hr
      refine ih (i + 1) (sum + r.2) (some r.1) s'' hn (by omega) (by omega) (by omega) (by omega) (fun _ => ⟨r, ?_, rfl⟩) u0 u6 u7 u8 u3 hx hr
      have : (((i + 1 : Nat) : Int) - 1).toNat = i := by omega
      rw [this]; exact he
    have bad : ∀ s'', (p.any (fun a => decide (r.1 ≤ a)) = true ∨ r.2 < 1 ∨ 1099511627776 - sum < r.2) → s''.t 2 = .c (.bool false) → K .r s'' := by
      intro s'' g u2
      refine hr ?_ s'' u2
      rcases g with g | g | g
      · simp [goodFrom, g]
      · simp [goodFrom, g]
      · have : cap - sum < r.2 := g
        simp [goodFrom, this]
    rcases Nat.eq_zero_or_pos i with hz | hz
    · have hp := hp0 hz
      repeat' (first
        | refine w_seq ?_
        | refine w_ops ?_
        | refine w_opsD0 rfl ?_
        | refine w_opsD1 rfl (fun u => ?_)
        | refine w_opsD2 rfl (fun u u => ?_)
        | refine w_opsD3 rfl (fun u u u => ?_)
        | refine w_opsD4 rfl (fun u u u u => ?_)
        | refine st_nil ?_
        | refine th_n ?_
        | refine th_x ?_
        | refine th_r ?_
        | refine bk_n ?_
        | refine bk_r ?_
        | refine bk_x ?_
        | refine bk_y (by decide) ?_
        | refine w_block ?_
        | refine w_skip ?_
        | refine w_exit ?_
        | refine w_ret ?_
        | refine w_true rfl ?_
        | refine w_false rfl ?_
        | refine w_condd rfl (fun hc => ?_) (fun hc => ?_)
        | refine w_cond rfl (fun hc => ?_) (fun hc => ?_)
        | refine g_yes rfl ?_
        | refine g_no rfl ?_
        | refine g_no' rfl ?_
        | refine g_un rfl ?_
        | refine g_un' rfl ?_
        | refine g_splitd rfl (fun hg => ?_) (fun hg => ?_)
        | refine g_split rfl (fun hg => ?_) (fun hg => ?_)
        | refine mv_c rfl ?_
        | refine mv_ptr rfl ?_
        | refine mv_rp rfl ?_
        | refine mv_osl rfl ?_
        | refine mv_sp rfl ?_
        | refine mv_undef rfl ?_
        | refine pick_t rfl rfl ?_
        | refine pick_f rfl rfl ?_
        | refine lss_t rfl rfl (by omega) ?_
        | refine lss_f rfl rfl (by omega) ?_
        | refine lss_ rfl rfl ?_
        | refine gtr_t rfl rfl (by omega) ?_
        | refine gtr_f rfl rfl (by omega) ?_
        | refine gtr_ rfl rfl ?_
        | refine geq_t rfl rfl (by omega) ?_
        | refine geq_f rfl rfl (by omega) ?_
        | refine geq_ rfl rfl ?_
        | refine addu_in rfl rfl (by omega) ?_
        | refine subu_in rfl rfl (by omega) ?_
        | refine add_in rfl rfl (by omega) ?_
        | refine sub_in rfl rfl (by omega) ?_
        | refine alloc_ (fun u => ?_)
        | refine load_rp rfl (Nat.le_of_ble_eq_true rfl) rfl ?_
        | refine load_ptr rfl (by decide) rfl (Nat.le_of_ble_eq_true rfl) rfl ?_
        | refine load_sp rfl (by decide) rfl (by assumption) (Nat.le_of_ble_eq_true rfl) rfl ?_
        | refine store_ptr rfl rfl (by decide) rfl rfl (Nat.le_of_ble_eq_true rfl) rfl ?_
        | refine store_sp rfl rfl (by decide) rfl (by assumption) rfl (Nat.le_of_ble_eq_true rfl) rfl ?_
        | refine fad_ptr rfl rfl rfl ?_
        | refine fad_rp rfl (Nat.le_of_ble_eq_true rfl) rfl ?_
        | refine fad_sp rfl rfl rfl ?_
        | refine iaS_c rfl rfl (by omega) (by assumption) rfl ?_
        | refine iaS_osl rfl rfl rfl (by omega) rfl ?_
        | refine iaS_osl rfl rfl rfl (by first | omega | (simp; omega)) rfl ?_
        | refine addu_ rfl rfl ?_
        | refine subu_ rfl rfl ?_
        | refine bin_ rfl rfl rfl ?_)
      all_goals (first | exact next _ (by simp [hp]) (by omega) (by omega) rfl rfl rfl rfl rfl | exact bad _ (.inr (by omega)) rfl | exact bad _ (.inl (by simp [hp]; omega)) rfl)
    · obtain ⟨q, hq, hp⟩ := hp1 hz
      repeat' (first
        | refine w_seq ?_
        | refine w_ops ?_
        | refine w_opsD0 rfl ?_
        | refine w_opsD1 rfl (fun u => ?_)
        | refine w_opsD2 rfl (fun u u => ?_)
        | refine w_opsD3 rfl (fun u u u => ?_)
        | refine w_opsD4 rfl (fun u u u u => ?_)
        | refine st_nil ?_
        | refine th_n ?_
        | refine th_x ?_
        | refine th_r ?_
        | refine bk_n ?_
        | refine bk_r ?_
        | refine bk_x ?_
        | refine bk_y (by decide) ?_
        | refine w_block ?_
        | refine w_skip ?_
        | refine w_exit ?_
        | refine w_ret ?_
        | refine w_true rfl ?_
        | refine w_false rfl ?_
        | refine w_condd rfl (fun hc => ?_) (fun hc => ?_)
        | refine w_cond rfl (fun hc => ?_) (fun hc => ?_)
        | refine g_yes rfl ?_
        | refine g_no rfl ?_
        | refine g_no' rfl ?_
        | refine g_un rfl ?_
        | refine g_un' rfl ?_
        | refine g_splitd rfl (fun hg => ?_) (fun hg => ?_)
        | refine g_split rfl (fun hg => ?_) (fun hg => ?_)
        | refine mv_c rfl ?_
        | refine mv_ptr rfl ?_
        | refine mv_rp rfl ?_
        | refine mv_osl rfl ?_
        | refine mv_sp rfl ?_
        | refine mv_undef rfl ?_
        | refine pick_t rfl rfl ?_
        | refine pick_f rfl rfl ?_
        | refine lss_t rfl rfl (by omega) ?_
        | refine lss_f rfl rfl (by omega) ?_
        | refine lss_ rfl rfl ?_
        | refine gtr_t rfl rfl (by omega) ?_
        | refine gtr_f rfl rfl (by omega) ?_
        | refine gtr_ rfl rfl ?_
        | refine geq_t rfl rfl (by omega) ?_
        | refine geq_f rfl rfl (by omega) ?_
        | refine geq_ rfl rfl ?_
        | refine addu_in rfl rfl (by omega) ?_
        | refine subu_in rfl rfl (by omega) ?_
        | refine add_in rfl rfl (by omega) ?_
        | refine sub_in rfl rfl (by omega) ?_
        | refine alloc_ (fun u => ?_)
        | refine load_rp rfl (Nat.le_of_ble_eq_true rfl) rfl ?_
        | refine load_ptr rfl (by decide) rfl (Nat.le_of_ble_eq_true rfl) rfl ?_
        | refine load_sp rfl (by decide) rfl (by assumption) (Nat.le_of_ble_eq_true rfl) rfl ?_
        | refine store_ptr rfl rfl (by decide) rfl rfl (Nat.le_of_ble_eq_true rfl) rfl ?_
        | refine store_sp rfl rfl (by decide) rfl (by assumption) rfl (Nat.le_of_ble_eq_true rfl) rfl ?_
        | refine fad_ptr rfl rfl rfl ?_
        | refine fad_rp rfl (Nat.le_of_ble_eq_true rfl) rfl ?_
        | refine fad_sp rfl rfl rfl ?_
        | refine iaS_c rfl rfl (by omega) (by assumption) rfl ?_
        | refine iaS_osl rfl rfl rfl (by omega) rfl ?_
        | refine iaS_osl rfl rfl rfl (by first | omega | (simp; omega)) rfl ?_
        | refine addu_ rfl rfl ?_
        | refine subu_ rfl rfl ?_
        | refine bin_ rfl rfl rfl ?_)
      all_goals (first | exact next _ (by simp [hp]; omega) (by omega) (by omega) rfl rfl rfl rfl rfl | exact bad _ (.inr (by omega)) rfl | exact bad _ (.inl (by simp [hp]; omega)) rfl)

theorem C_good (l : List Run) (hlen : l.length < 4611686018427387904) : PCallG Try.prog 26 [.c (encL l)] (.c (.bool (good l))) [] := by
  refine pcallF Try.func26 c26 rfl ?_
  have t0 : (initPS [.c (encL l)]).t 0 = .c (encL l) := rfl
  rw [← put_same t0]
  unfold p26 r26_0 r26_1 r26_2
  repeat' (first
    | refine w_seq ?_
    | refine w_ops ?_
    | refine w_opsD0 rfl ?_
    | refine w_opsD1 rfl (fun u => ?_)
    | refine w_opsD2 rfl (fun u u => ?_)
    | refine w_opsD3 rfl (fun u u u => ?_)
    | refine w_opsD4 rfl (fun u u u u => ?_)
    | refine st_nil ?_
    | refine th_n ?_
    | refine th_x ?_
    | refine th_r ?_
    | refine bk_n ?_
    | refine bk_r ?_
    | refine bk_x ?_
    | refine bk_y (by decide) ?_
    | refine w_block ?_
    | refine w_skip ?_
    | refine w_exit ?_
    | refine w_ret ?_
    | refine w_true rfl ?_
    | refine w_false rfl ?_
    | refine w_condd rfl (fun hc => ?_) (fun hc => ?_)
    | refine w_cond rfl (fun hc => ?_) (fun hc => ?_)
    | refine g_yes rfl ?_
    | refine g_no rfl ?_
    | refine g_no' rfl ?_
    | refine g_un rfl ?_
    | refine g_un' rfl ?_
    | refine g_splitd rfl (fun hg => ?_) (fun hg => ?_)
    | refine g_split rfl (fun hg => ?_) (fun hg => ?_)
    | refine mv_c rfl ?_
    | refine mv_ptr rfl ?_
    | refine mv_rp rfl ?_
    | refine mv_osl rfl ?_
    | refine mv_sp rfl ?_
    | refine mv_undef rfl ?_
    | refine pick_t rfl rfl ?_
    | refine pick_f rfl rfl ?_
    | refine lss_t rfl rfl (by omega) ?_
    | refine lss_f rfl rfl (by omega) ?_
    | refine lss_ rfl rfl ?_
    | refine leq_t rfl rfl (by omega) ?_
    | refine leq_f rfl rfl (by omega) ?_
    | refine leq_ rfl rfl ?_
    | refine gtr_t rfl rfl (by omega) ?_
    | refine gtr_f rfl rfl (by omega) ?_
    | refine gtr_ rfl rfl ?_
    | refine geq_t rfl rfl (by omega) ?_
    | refine geq_f rfl rfl (by omega) ?_
    | refine geq_ rfl rfl ?_
    | refine eql_t rfl rfl (by omega) ?_
    | refine eql_f rfl rfl (by omega) ?_
    | refine eqd_ rfl rfl ?_
    | refine neq_t rfl rfl (by omega) ?_
    | refine neq_f rfl rfl (by omega) ?_
    | refine ned_ rfl rfl ?_
    | refine eqlB_ rfl rfl ?_
    | refine neqB_ rfl rfl ?_
    | refine notd_ rfl ?_
    | refine not_ rfl ?_
    | refine addu_in rfl rfl (by omega) ?_
    | refine subu_in rfl rfl (by omega) ?_
    | refine mulu_in rfl rfl (by first | assumption | omega) ?_
    | refine mul_in rfl rfl (by first | assumption | omega) ?_
    | refine shr_n (n := 32) (m := 4294967296) rfl rfl (by decide) (by decide) ?_
    | refine shr_n (n := 63) (m := 9223372036854775808) rfl rfl (by decide) (by decide) ?_
    | refine and_mask 32 (m := 4294967295) (by decide) (by decide) rfl rfl (by omega) ?_
    | refine conv_in rfl (wrapu_in (by omega)) ?_
    | refine conv_u rfl ?_
    | refine conv_in rfl (wrap64_in (by omega)) ?_
    | refine conv_s rfl (wrap64_hi (by omega)) ?_
    | refine neg_in rfl (by omega) ?_
    | refine negu_ rfl ?_
    | refine add_in rfl rfl (by omega) ?_
    | refine sub_in rfl rfl (by omega) ?_
    | refine own0_ (fun u => ?_)
    | refine alloc_ (fun u => ?_)
    | refine box_ rfl rfl rfl (fun u => ?_)
    | refine build_ rfl rfl ?_
    | refine bsl_ rfl rfl ?_
    | refine bsl_own rfl rfl rfl (fun u => ?_)
    | refine load_rp rfl (Nat.le_of_ble_eq_true rfl) rfl ?_
    | refine load_ptr rfl (by decide) rfl (Nat.le_of_ble_eq_true rfl) rfl ?_
    | refine load_sp rfl (by decide) rfl (by assumption) (Nat.le_of_ble_eq_true rfl) rfl ?_
    | refine store_ptr rfl rfl (by decide) rfl rfl (Nat.le_of_ble_eq_true rfl) rfl ?_
    | refine store_sp rfl rfl (by decide) rfl (by assumption) rfl (Nat.le_of_ble_eq_true rfl) rfl ?_
    | refine fad_ptr rfl rfl rfl ?_
    | refine fad_rp rfl (Nat.le_of_ble_eq_true rfl) rfl ?_
    | refine fad_sp rfl rfl rfl ?_
    | refine iaA_ptr rfl rfl rfl (by omega) rfl ?_
    | refine iaA_rp rfl rfl (by omega) (Nat.le_of_ble_eq_true rfl) rfl ?_
    | refine iaS_c rfl rfl (by omega) (by assumption) rfl ?_
    | refine iaS_osl rfl rfl rfl (by omega) rfl ?_
    | refine fld_ rfl (Nat.le_of_ble_eq_true rfl) rfl ?_
    | refine ext_ rfl rfl ?_
    | refine len_sl rfl (by first | assumption | exact List.length_map _) ?_
    | refine len_sl rfl rfl ?_
    | refine len_osl rfl rfl ?_
    | refine iaS_osl rfl rfl rfl (by first | omega | (simp; omega)) rfl ?_
    | refine len_osl rfl rfl ?_
    | refine w_rn_same rfl ?_
    | refine w_rn rfl (by decide) rfl rfl (fun _ _ => ?_)
    | refine w_fz_osl rfl rfl rfl (fun u => ?_)
    | refine w_fz_c rfl ?_
    | refine app_own rfl rfl rfl rfl (by first | assumption | omega | (simp; omega)) (by first | (intro e he; cases List.mem_singleton.mp he; rfl) | assumption) rfl rfl (fun _ _ => ?_)
    | refine app_cl rfl rfl rfl rfl (by first | assumption | omega | (simp; omega)) (by first | (intro e he; cases List.mem_singleton.mp he; rfl) | assumption) rfl (fun u => ?_)
    | refine nilc_ptr rfl rfl ?_
    | refine nilc_rp rfl ?_
    | refine conv_ rfl ?_
    | refine mki_ rfl ?_
    | refine mm_min rfl rfl ?_
    | refine mm_max rfl rfl ?_
    | refine eqs_t rfl rfl rfl ?_
    | refine eqs_f rfl rfl rfl ?_
    | refine xf_ rfl rfl ?_
    | refine un_ rfl rfl ?_
    | refine len_str rfl ?_
    | refine mulu_ rfl rfl ?_
    | refine addu_ rfl rfl ?_
    | refine subu_ rfl rfl ?_
    | refine bin_ rfl rfl rfl ?_)
  refine good_loop l hlen l 0 0 none _ rfl (by omega) (by omega) (by omega) (fun _ => rfl) (fun h => by omega) rfl rfl (by simp [PS.put, encL]) rfl rfl ?_ ?_
  · intro hg s'
    unfold r26_9
    repeat' (first
      | refine w_seq ?_
      | refine w_ops ?_
      | refine w_opsD0 rfl ?_
      | refine w_opsD1 rfl (fun u => ?_)
      | refine w_opsD2 rfl (fun u u => ?_)
      | refine w_opsD3 rfl (fun u u u => ?_)
      | refine w_opsD4 rfl (fun u u u u => ?_)
      | refine st_nil ?_
      | refine th_n ?_
      | refine th_x ?_
      | refine th_r ?_
      | refine bk_n ?_
      | refine bk_r ?_
      | refine bk_x ?_
      | refine bk_y (by decide) ?_
      | refine w_block ?_
      | refine w_skip ?_
      | refine w_exit ?_
      | refine w_ret ?_
      | refine w_true rfl ?_
      | refine w_false rfl ?_
      | refine w_condd rfl (fun hc => ?_) (fun hc => ?_)
      | refine w_cond rfl (fun hc => ?_) (fun hc => ?_)
      | refine g_yes rfl ?_
      | refine g_no rfl ?_
      | refine g_no' rfl ?_
      | refine g_un rfl ?_
      | refine g_un' rfl ?_
      | refine g_splitd rfl (fun hg => ?_) (fun hg => ?_)
      | refine g_split rfl (fun hg => ?_) (fun hg => ?_)
      | refine mv_c rfl ?_
      | refine mv_ptr rfl ?_
      | refine mv_rp rfl ?_
      | refine mv_osl rfl ?_
      | refine mv_sp rfl ?_
      | refine mv_undef rfl ?_
      | refine pick_t rfl rfl ?_
      | refine pick_f rfl rfl ?_
      | refine lss_t rfl rfl (by omega) ?_
      | refine lss_f rfl rfl (by omega) ?_
      | refine lss_ rfl rfl ?_
      | refine leq_t rfl rfl (by omega) ?_
      | refine leq_f rfl rfl (by omega) ?_
      | refine leq_ rfl rfl ?_
      | refine gtr_t rfl rfl (by omega) ?_
      | refine gtr_f rfl rfl (by omega) ?_
      | refine gtr_ rfl rfl ?_
      | refine geq_t rfl rfl (by omega) ?_
      | refine geq_f rfl rfl (by omega) ?_
      | refine geq_ rfl rfl ?_
      | refine eql_t rfl rfl (by omega) ?_
      | refine eql_f rfl rfl (by omega) ?_
      | refine eqd_ rfl rfl ?_
      | refine neq_t rfl rfl (by omega) ?_
      | refine neq_f rfl rfl (by omega) ?_
      | refine ned_ rfl rfl ?_
      | refine eqlB_ rfl rfl ?_
      | refine neqB_ rfl rfl ?_
      | refine notd_ rfl ?_
      | refine not_ rfl ?_
      | refine addu_in rfl rfl (by omega) ?_
      | refine subu_in rfl rfl (by omega) ?_
      | refine mulu_in rfl rfl (by first | assumption | omega) ?_
      | refine mul_in rfl rfl (by first | assumption | omega) ?_
      | refine shr_n (n := 32) (m := 4294967296) rfl rfl (by decide) (by decide) ?_
      | refine shr_n (n := 63) (m := 9223372036854775808) rfl rfl (by decide) (by decide) ?_
      | refine and_mask 32 (m := 4294967295) (by decide) (by decide) rfl rfl (by omega) ?_
      | refine conv_in rfl (wrapu_in (by omega)) ?_
      | refine conv_u rfl ?_
      | refine conv_in rfl (wrap64_in (by omega)) ?_
      | refine conv_s rfl (wrap64_hi (by omega)) ?_
      | refine neg_in rfl (by omega) ?_
      | refine negu_ rfl ?_
      | refine add_in rfl rfl (by omega) ?_
      | refine sub_in rfl rfl (by omega) ?_
      | refine own0_ (fun u => ?_)
      | refine alloc_ (fun u => ?_)
      | refine box_ rfl rfl rfl (fun u => ?_)
      | refine build_ rfl rfl ?_
      | refine bsl_ rfl rfl ?_
      | refine bsl_own rfl rfl rfl (fun u => ?_)
      | refine load_rp rfl (Nat.le_of_ble_eq_true rfl) rfl ?_
      | refine load_ptr rfl (by decide) rfl (Nat.le_of_ble_eq_true rfl) rfl ?_
      | refine load_sp rfl (by decide) rfl (by assumption) (Nat.le_of_ble_eq_true rfl) rfl ?_
      | refine store_ptr rfl rfl (by decide) rfl rfl (Nat.le_of_ble_eq_true rfl) rfl ?_
      | refine store_sp rfl rfl (by decide) rfl (by assumption) rfl (Nat.le_of_ble_eq_true rfl) rfl ?_
      | refine fad_ptr rfl rfl rfl ?_
      | refine fad_rp rfl (Nat.le_of_ble_eq_true rfl) rfl ?_
      | refine fad_sp rfl rfl rfl ?_
      | refine iaA_ptr rfl rfl rfl (by omega) rfl ?_
      | refine iaA_rp rfl rfl (by omega) (Nat.le_of_ble_eq_true rfl) rfl ?_
      | refine iaS_c rfl rfl (by omega) (by assumption) rfl ?_
      | refine iaS_osl rfl rfl rfl (by omega) rfl ?_
      | refine fld_ rfl (Nat.le_of_ble_eq_true rfl) rfl ?_
      | refine ext_ rfl rfl ?_
      | refine len_sl rfl (by first | assumption | exact List.length_map _) ?_
      | refine len_sl rfl rfl ?_
      | refine len_osl rfl rfl ?_
      | refine iaS_osl rfl rfl rfl (by first | omega | (simp; omega)) rfl ?_
      | refine len_osl rfl rfl ?_
      | refine w_rn_same rfl ?_
      | refine w_rn rfl (by decide) rfl rfl (fun _ _ => ?_)
      | refine w_fz_osl rfl rfl rfl (fun u => ?_)
      | refine w_fz_c rfl ?_
      | refine app_own rfl rfl rfl rfl (by first | assumption | omega | (simp; omega)) (by first | (intro e he; cases List.mem_singleton.mp he; rfl) | assumption) rfl rfl (fun _ _ => ?_)
      | refine app_cl rfl rfl rfl rfl (by first | assumption | omega | (simp; omega)) (by first | (intro e he; cases List.mem_singleton.mp he; rfl) | assumption) rfl (fun u => ?_)
      | refine nilc_ptr rfl rfl ?_
      | refine nilc_rp rfl ?_
      | refine conv_ rfl ?_
      | refine mki_ rfl ?_
      | refine mm_min rfl rfl ?_
      | refine mm_max rfl rfl ?_
      | refine eqs_t rfl rfl rfl ?_
      | refine eqs_f rfl rfl rfl ?_
      | refine xf_ rfl rfl ?_
      | refine un_ rfl rfl ?_
      | refine len_str rfl ?_
      | refine mulu_ rfl rfl ?_
      | refine addu_ rfl rfl ?_
      | refine subu_ rfl rfl ?_
      | refine bin_ rfl rfl rfl ?_)
    exact ⟨_, rfl, by unfold good; rw [hg]; rfl⟩
  · intro hg s' h2
    repeat' (first
      | refine w_seq ?_
      | refine w_ops ?_
      | refine w_opsD0 rfl ?_
      | refine w_opsD1 rfl (fun u => ?_)
      | refine w_opsD2 rfl (fun u u => ?_)
      | refine w_opsD3 rfl (fun u u u => ?_)
      | refine w_opsD4 rfl (fun u u u u => ?_)
      | refine st_nil ?_
      | refine th_n ?_
      | refine th_x ?_
      | refine th_r ?_
      | refine bk_n ?_
      | refine bk_r ?_
      | refine bk_x ?_
      | refine bk_y (by decide) ?_
      | refine w_block ?_
      | refine w_skip ?_
      | refine w_exit ?_
      | refine w_ret ?_
      | refine w_true rfl ?_
      | refine w_false rfl ?_
      | refine w_condd rfl (fun hc => ?_) (fun hc => ?_)
      | refine w_cond rfl (fun hc => ?_) (fun hc => ?_)
      | refine g_yes rfl ?_
      | refine g_no rfl ?_
      | refine g_no' rfl ?_
      | refine g_un rfl ?_
      | refine g_un' rfl ?_
      | refine g_splitd rfl (fun hg => ?_) (fun hg => ?_)
      | refine g_split rfl (fun hg => ?_) (fun hg => ?_)
      | refine mv_c rfl ?_
      | refine mv_ptr rfl ?_
      | refine mv_rp rfl ?_
      | refine mv_osl rfl ?_
      | refine mv_sp rfl ?_
      | refine mv_undef rfl ?_
      | refine pick_t rfl rfl ?_
      | refine pick_f rfl rfl ?_
      | refine lss_t rfl rfl (by omega) ?_
      | refine lss_f rfl rfl (by omega) ?_
      | refine lss_ rfl rfl ?_
      | refine leq_t rfl rfl (by omega) ?_
      | refine leq_f rfl rfl (by omega) ?_
      | refine leq_ rfl rfl ?_
      | refine gtr_t rfl rfl (by omega) ?_
      | refine gtr_f rfl rfl (by omega) ?_
      | refine gtr_ rfl rfl ?_
      | refine geq_t rfl rfl (by omega) ?_
      | refine geq_f rfl rfl (by omega) ?_
      | refine geq_ rfl rfl ?_
      | refine eql_t rfl rfl (by omega) ?_
      | refine eql_f rfl rfl (by omega) ?_
      | refine eqd_ rfl rfl ?_
      | refine neq_t rfl rfl (by omega) ?_
      | refine neq_f rfl rfl (by omega) ?_
      | refine ned_ rfl rfl ?_
      | refine eqlB_ rfl rfl ?_
      | refine neqB_ rfl rfl ?_
      | refine notd_ rfl ?_
      | refine not_ rfl ?_
      | refine addu_in rfl rfl (by omega) ?_
      | refine subu_in rfl rfl (by omega) ?_
      | refine mulu_in rfl rfl (by first | assumption | omega) ?_
      | refine mul_in rfl rfl (by first | assumption | omega) ?_
      | refine shr_n (n := 32) (m := 4294967296) rfl rfl (by decide) (by decide) ?_
      | refine shr_n (n := 63) (m := 9223372036854775808) rfl rfl (by decide) (by decide) ?_
      | refine and_mask 32 (m := 4294967295) (by decide) (by decide) rfl rfl (by omega) ?_
      | refine conv_in rfl (wrapu_in (by omega)) ?_
      | refine conv_u rfl ?_
      | refine conv_in rfl (wrap64_in (by omega)) ?_
      | refine conv_s rfl (wrap64_hi (by omega)) ?_
      | refine neg_in rfl (by omega) ?_
      | refine negu_ rfl ?_
      | refine add_in rfl rfl (by omega) ?_
      | refine sub_in rfl rfl (by omega) ?_
      | refine own0_ (fun u => ?_)
      | refine alloc_ (fun u => ?_)
      | refine box_ rfl rfl rfl (fun u => ?_)
      | refine build_ rfl rfl ?_
      | refine bsl_ rfl rfl ?_
      | refine bsl_own rfl rfl rfl (fun u => ?_)
      | refine load_rp rfl (Nat.le_of_ble_eq_true rfl) rfl ?_
      | refine load_ptr rfl (by decide) rfl (Nat.le_of_ble_eq_true rfl) rfl ?_
      | refine load_sp rfl (by decide) rfl (by assumption) (Nat.le_of_ble_eq_true rfl) rfl ?_
      | refine store_ptr rfl rfl (by decide) rfl rfl (Nat.le_of_ble_eq_true rfl) rfl ?_
      | refine store_sp rfl rfl (by decide) rfl (by assumption) rfl (Nat.le_of_ble_eq_true rfl) rfl ?_
      | refine fad_ptr rfl rfl rfl ?_
      | refine fad_rp rfl (Nat.le_of_ble_eq_true rfl) rfl ?_
      | refine fad_sp rfl rfl rfl ?_
      | refine iaA_ptr rfl rfl rfl (by omega) rfl ?_
      | refine iaA_rp rfl rfl (by omega) (Nat.le_of_ble_eq_true rfl) rfl ?_
      | refine iaS_c rfl rfl (by omega) (by assumption) rfl ?_
      | refine iaS_osl rfl rfl rfl (by omega) rfl ?_
      | refine fld_ rfl (Nat.le_of_ble_eq_true rfl) rfl ?_
      | refine ext_ rfl rfl ?_
      | refine len_sl rfl (by first | assumption | exact List.length_map _) ?_
      | refine len_sl rfl rfl ?_
      | refine len_osl rfl rfl ?_
      | refine iaS_osl rfl rfl rfl (by first | omega | (simp; omega)) rfl ?_
      | refine len_osl rfl rfl ?_
      | refine w_rn_same rfl ?_
      | refine w_rn rfl (by decide) rfl rfl (fun _ _ => ?_)
      | refine w_fz_osl rfl rfl rfl (fun u => ?_)
      | refine w_fz_c rfl ?_
      | refine app_own rfl rfl rfl rfl (by first | assumption | omega | (simp; omega)) (by first | (intro e he; cases List.mem_singleton.mp he; rfl) | assumption) rfl rfl (fun _ _ => ?_)
      | refine app_cl rfl rfl rfl rfl (by first | assumption | omega | (simp; omega)) (by first | (intro e he; cases List.mem_singleton.mp he; rfl) | assumption) rfl (fun u => ?_)
      | refine nilc_ptr rfl rfl ?_
      | refine nilc_rp rfl ?_
      | refine conv_ rfl ?_
      | refine mki_ rfl ?_
      | refine mm_min rfl rfl ?_
      | refine mm_max rfl rfl ?_
      | refine eqs_t rfl rfl rfl ?_
      | refine eqs_f rfl rfl rfl ?_
      | refine xf_ rfl rfl ?_
      | refine un_ rfl rfl ?_
      | refine len_str rfl ?_
      | refine mulu_ rfl rfl ?_
      | refine addu_ rfl rfl ?_
      | refine subu_ rfl rfl ?_
      | refine bin_ rfl rfl rfl ?_)
    exact ⟨[.bool false], by simp [rsVals, rs26, rsVal, h2, PS.close], by unfold good; rw [hg]; rfl⟩
end Go.Proofs.Ytcmejdkjfekoeaa

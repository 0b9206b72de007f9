import Derived.Test.YtcmejdkjfekoeaaMBag2
import Derived.Test.YtcmejdkjfekoeaaCBag
namespace Go.Proofs.Ytcmejdkjfekoeaa
open Go.Pl Go.Bag
set_option maxHeartbeats 4000000

theorem fin_own' {i d ver n : Nat} {sz : Nat} {es zs : List (List CV)} {s : PS} (h : s.t i = .osl d ver 0 n) (hb : s.bx d = ⟨ver, .sl sz zs⟩) (hz : zs = es) (hn : n = zs.length) : FinK [.t i] (.own sz es) .r s := by
  subst hz; exact fin_own h hb hn

theorem set_last (k : List Run) (r q : Run) : (encE (k ++ [r])).set k.length (encR q) = encE (k ++ [q]) := by
  simp [encE, List.set_append]

theorem C_more (l : List Run) (v n : Int) (hlen : l.length < 1000000000) (hb : ∀ r ∈ l, -9223372036854775808 ≤ r.2 + n ∧ r.2 + n ≤ 9223372036854775807) :
    PCallG Try.prog 84 [.own 2 (encE l), .c (.int .i64 v), .c (.int .i64 n)] (.own 2 (encE (moreL l v n))) [] := by
  refine pcallF Try.func84 c84 rfl ?_
  unfold p84 r84_0 r84_1 r84_2 r84_3 r84_4 r84_5
  rcases snoc_cases l with rfl | ⟨k, r, rfl⟩
  · have hg : (encE []).length = 0 := rfl
    have hm : ([] : List (List CV)).length + [[CV.int .i64 v, .int .i64 n]].length ≤ maxGrow := by simp [maxGrow]
    repeat' (first
      | refine w_seq ?_
      | refine w_ops ?_
      | refine st_nil ?_
      | refine th_n ?_
      | refine th_r ?_
      | refine w_skip ?_
      | refine w_ret ?_
      | refine w_true rfl ?_
      | refine w_false rfl ?_
      | refine w_condd rfl (fun hc => ?_) (fun hc => ?_)
      | refine w_cond rfl (fun hc => ?_) (fun hc => ?_)
      | refine g_yes rfl ?_
      | refine g_no rfl ?_
      | refine g_no' rfl ?_
      | refine g_un rfl ?_
      | refine g_un' rfl ?_
      | refine g_splitd rfl (fun hg => ?_) (fun hg => ?_)
      | refine g_split rfl (fun hg => ?_) (fun hg => ?_)
      | refine mv_c rfl ?_
      | refine mv_ptr rfl ?_
      | refine mv_rp rfl ?_
      | refine mv_osl rfl ?_
      | refine mv_sp rfl ?_
      | refine mv_undef rfl ?_
      | refine pick_t rfl rfl ?_
      | refine pick_f rfl rfl ?_
      | refine geq_t rfl rfl (by omega) ?_
      | refine geq_f rfl rfl (by omega) ?_
      | refine geq_ rfl rfl ?_
      | refine eql_t rfl rfl (by omega) ?_
      | refine eql_f rfl rfl (by omega) ?_
      | refine eqd_ rfl rfl ?_
      | refine addu_in rfl rfl (by omega) ?_
      | refine subu_in rfl rfl (by omega) ?_
      | refine add_in rfl rfl (by omega) ?_
      | refine sub_in rfl rfl (by omega) ?_
      | refine own0_ (fun u => ?_)
      | refine build_ rfl rfl ?_
      | refine bsl_ rfl rfl ?_
      | refine bsl_own rfl rfl rfl (fun u => ?_)
      | refine load_rp rfl (Nat.le_of_ble_eq_true rfl) rfl ?_
      | refine load_ptr rfl (by decide) rfl (Nat.le_of_ble_eq_true rfl) rfl ?_
      | refine load_sp rfl (by decide) rfl (by assumption) (Nat.le_of_ble_eq_true rfl) rfl ?_
      | refine store_ptr rfl rfl (by decide) rfl rfl (Nat.le_of_ble_eq_true rfl) rfl ?_
      | refine store_sp rfl rfl (by decide) rfl (by assumption) rfl (Nat.le_of_ble_eq_true rfl) rfl ?_
      | refine fad_ptr rfl rfl rfl ?_
      | refine fad_rp rfl (Nat.le_of_ble_eq_true rfl) rfl ?_
      | refine fad_sp rfl rfl rfl ?_
      | refine iaS_c rfl rfl (by omega) (by assumption) rfl ?_
      | refine iaS_osl rfl rfl rfl (by omega) rfl ?_
      | refine len_sl rfl (by first | assumption | exact List.length_map _) ?_
      | refine len_sl rfl rfl ?_
      | refine len_osl rfl rfl ?_
      | refine iaS_osl rfl rfl rfl (by first | omega | (simp; omega)) rfl ?_
      | refine len_osl rfl rfl ?_
      | refine app_own rfl rfl rfl rfl (by first | assumption | omega | (simp; omega)) (by first | (intro e he; cases List.mem_singleton.mp he; rfl) | assumption) rfl rfl (fun _ _ => ?_)
      | refine app_cl rfl rfl rfl rfl (by first | assumption | omega | (simp; omega)) (by first | (intro e he; cases List.mem_singleton.mp he; rfl) | assumption) rfl (fun u => ?_)
      | refine addu_ rfl rfl ?_
      | refine subu_ rfl rfl ?_
      | refine bin_ rfl rfl rfl ?_)
    exact fin_own rfl rfl rfl
  · have hr := hb r (by simp)
    have hk : (encE (k ++ [r])).length = k.length + 1 := by simp [encE]
    have hk9 : k.length < 1000000000 := by simp only [List.length_append, List.length_cons, List.length_nil] at hlen; omega
    have hn : (((k.length + 1 : Nat) : Int) - 1).toNat = k.length := by omega
    have hget : (encE (k ++ [r]))[(((encE (k ++ [r])).length : Int) - 1).toNat]? = some (encR r) := by rw [hk, hn]; simp [encE]
    have hgrow : (encE (k ++ [r])).length + [[CV.int .i64 v, .int .i64 n]].length ≤ maxGrow := by
      rw [hk]; simp [maxGrow] at *; omega
    by_cases hv : r.1 = v
    · subst hv
      rw [moreL_eq]
      repeat' (first
        | refine w_seq ?_
        | refine w_ops ?_
        | refine st_nil ?_
        | refine th_n ?_
        | refine th_r ?_
        | refine w_skip ?_
        | refine w_ret ?_
        | refine w_true rfl ?_
        | refine w_false rfl ?_
        | refine w_condd rfl (fun hc => ?_) (fun hc => ?_)
        | refine w_cond rfl (fun hc => ?_) (fun hc => ?_)
        | refine g_yes rfl ?_
        | refine g_no rfl ?_
        | refine g_no' rfl ?_
        | refine g_un rfl ?_
        | refine g_un' rfl ?_
        | refine g_splitd rfl (fun hg => ?_) (fun hg => ?_)
        | refine g_split rfl (fun hg => ?_) (fun hg => ?_)
        | refine mv_c rfl ?_
        | refine mv_ptr rfl ?_
        | refine mv_rp rfl ?_
        | refine mv_osl rfl ?_
        | refine mv_sp rfl ?_
        | refine mv_undef rfl ?_
        | refine pick_t rfl rfl ?_
        | refine pick_f rfl rfl ?_
        | refine geq_t rfl rfl (by omega) ?_
        | refine geq_f rfl rfl (by omega) ?_
        | refine geq_ rfl rfl ?_
        | refine eql_t rfl rfl (by omega) ?_
        | refine eql_f rfl rfl (by omega) ?_
        | refine eqd_ rfl rfl ?_
        | refine addu_in rfl rfl (by omega) ?_
        | refine subu_in rfl rfl (by omega) ?_
        | refine add_in rfl rfl (by omega) ?_
        | refine sub_in rfl rfl (by omega) ?_
        | refine own0_ (fun u => ?_)
        | refine build_ rfl rfl ?_
        | refine bsl_ rfl rfl ?_
        | refine bsl_own rfl rfl rfl (fun u => ?_)
        | refine load_rp rfl (Nat.le_of_ble_eq_true rfl) rfl ?_
        | refine load_ptr rfl (by decide) rfl (Nat.le_of_ble_eq_true rfl) rfl ?_
        | refine load_sp rfl (by decide) rfl (by assumption) (Nat.le_of_ble_eq_true rfl) rfl ?_
        | refine store_ptr rfl rfl (by decide) rfl rfl (Nat.le_of_ble_eq_true rfl) rfl ?_
        | refine store_sp rfl rfl (by decide) rfl (by assumption) rfl (Nat.le_of_ble_eq_true rfl) rfl ?_
        | refine fad_ptr rfl rfl rfl ?_
        | refine fad_rp rfl (Nat.le_of_ble_eq_true rfl) rfl ?_
        | refine fad_sp rfl rfl rfl ?_
        | refine iaS_c rfl rfl (by omega) (by assumption) rfl ?_
        | refine iaS_osl rfl rfl rfl (by omega) rfl ?_
        | refine len_sl rfl (by first | assumption | exact List.length_map _) ?_
        | refine len_sl rfl rfl ?_
        | refine len_osl rfl rfl ?_
        | refine iaS_osl rfl rfl rfl (by first | omega | (simp; omega)) rfl ?_
        | refine len_osl rfl rfl ?_
        | refine app_own rfl rfl rfl rfl (by first | assumption | omega | (simp; omega)) (by first | (intro e he; cases List.mem_singleton.mp he; rfl) | assumption) rfl rfl (fun _ _ => ?_)
        | refine app_cl rfl rfl rfl rfl (by first | assumption | omega | (simp; omega)) (by first | (intro e he; cases List.mem_singleton.mp he; rfl) | assumption) rfl (fun u => ?_)
        | refine addu_ rfl rfl ?_
        | refine subu_ rfl rfl ?_
        | refine bin_ rfl rfl rfl ?_)
      refine fin_own' rfl rfl ?_ ?_
      · rw [← set_last k r (r.1, r.2 + n), hk, hn]
        rfl
      · rw [List.length_set]
    · rw [moreL_ne k r v n hv]
      repeat' (first
        | refine w_seq ?_
        | refine w_ops ?_
        | refine st_nil ?_
        | refine th_n ?_
        | refine th_r ?_
        | refine w_skip ?_
        | refine w_ret ?_
        | refine w_true rfl ?_
        | refine w_false rfl ?_
        | refine w_condd rfl (fun hc => ?_) (fun hc => ?_)
        | refine w_cond rfl (fun hc => ?_) (fun hc => ?_)
        | refine g_yes rfl ?_
        | refine g_no rfl ?_
        | refine g_no' rfl ?_
        | refine g_un rfl ?_
        | refine g_un' rfl ?_
        | refine g_splitd rfl (fun hg => ?_) (fun hg => ?_)
        | refine g_split rfl (fun hg => ?_) (fun hg => ?_)
        | refine mv_c rfl ?_
        | refine mv_ptr rfl ?_
        | refine mv_rp rfl ?_
        | refine mv_osl rfl ?_
        | refine mv_sp rfl ?_
        | refine mv_undef rfl ?_
        | refine pick_t rfl rfl ?_
        | refine pick_f rfl rfl ?_
        | refine geq_t rfl rfl (by omega) ?_
        | refine geq_f rfl rfl (by omega) ?_
        | refine geq_ rfl rfl ?_
        | refine eql_t rfl rfl (by omega) ?_
        | refine eql_f rfl rfl (by omega) ?_
        | refine eqd_ rfl rfl ?_
        | refine addu_in rfl rfl (by omega) ?_
        | refine subu_in rfl rfl (by omega) ?_
        | refine add_in rfl rfl (by omega) ?_
        | refine sub_in rfl rfl (by omega) ?_
        | refine own0_ (fun u => ?_)
        | refine build_ rfl rfl ?_
        | refine bsl_ rfl rfl ?_
        | refine bsl_own rfl rfl rfl (fun u => ?_)
        | refine load_rp rfl (Nat.le_of_ble_eq_true rfl) rfl ?_
        | refine load_ptr rfl (by decide) rfl (Nat.le_of_ble_eq_true rfl) rfl ?_
        | refine load_sp rfl (by decide) rfl (by assumption) (Nat.le_of_ble_eq_true rfl) rfl ?_
        | refine store_ptr rfl rfl (by decide) rfl rfl (Nat.le_of_ble_eq_true rfl) rfl ?_
        | refine store_sp rfl rfl (by decide) rfl (by assumption) rfl (Nat.le_of_ble_eq_true rfl) rfl ?_
        | refine fad_ptr rfl rfl rfl ?_
        | refine fad_rp rfl (Nat.le_of_ble_eq_true rfl) rfl ?_
        | refine fad_sp rfl rfl rfl ?_
        | refine iaS_c rfl rfl (by omega) (by assumption) rfl ?_
        | refine iaS_osl rfl rfl rfl (by omega) rfl ?_
        | refine len_sl rfl (by first | assumption | exact List.length_map _) ?_
        | refine len_sl rfl rfl ?_
        | refine len_osl rfl rfl ?_
        | refine iaS_osl rfl rfl rfl (by first | omega | (simp; omega)) rfl ?_
        | refine len_osl rfl rfl ?_
        | refine app_own rfl rfl rfl rfl (by first | assumption | omega | (simp; omega)) (by first | (intro e he; cases List.mem_singleton.mp he; rfl) | assumption) rfl rfl (fun _ _ => ?_)
        | refine app_cl rfl rfl rfl rfl (by first | assumption | omega | (simp; omega)) (by first | (intro e he; cases List.mem_singleton.mp he; rfl) | assumption) rfl (fun u => ?_)
        | refine addu_ rfl rfl ?_
        | refine subu_ rfl rfl ?_
        | refine bin_ rfl rfl rfl ?_)
      refine fin_own' rfl rfl ?_ ?_
      · simp [encE]; rfl
      · rfl
end Go.Proofs.Ytcmejdkjfekoeaa

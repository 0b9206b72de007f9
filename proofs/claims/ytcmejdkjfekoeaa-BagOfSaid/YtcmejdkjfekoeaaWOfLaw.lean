import Derived.Test.YtcmejdkjfekoeaaWMany
namespace Go.Proofs.Ytcmejdkjfekoeaa
open Go.Pl Go.Bag
set_option maxHeartbeats 8000000

theorem totI_sum : ∀ l : List Int, totI l = sumI l
  | [] => rfl
  | a :: l => by simp only [totI, sumI, totI_sum l]

/-- where a row is parted -/
def modI (n m : Int) : Int := if n.tmod m < 0 then n.tmod m + m else n.tmod m
theorem modI_in {n m : Int} (h : 0 < m) : 0 ≤ modI n m ∧ modI n m < m := by
  have h1 := Int.tmod_lt_of_pos n h
  have h2 : -m < n.tmod m := by
    have := Int.tmod_lt_of_pos (-n) h
    rw [Int.neg_tmod] at this; omega
  unfold modI; split <;> omega

theorem C_Mod (n m : Int) (hm : 0 < m ∧ m ≤ 9223372036854775807) : PCallG Try.prog 28 [.c (.int .i64 n), .c (.int .i64 m)] (.c (.int .i64 (modI n m))) [] := by
  refine pcallF Try.func28 c28 rfl ?_
  have h1 := Int.tmod_lt_of_pos n hm.1
  have h2 : -m < n.tmod m := by
    have := Int.tmod_lt_of_pos (-n) hm.1
    rw [Int.neg_tmod] at this; omega
  have he : modI n m = if n.tmod m < 0 then n.tmod m + m else n.tmod m := rfl
  rw [he]
  unfold p28 r28_0 r28_1 r28_2 r28_3 r28_4
  repeat' (first
    | refine rem_ rfl rfl (by omega) ?_
    | refine w_seq ?_
    | refine w_ops ?_
    | refine st_nil ?_
    | refine th_n ?_
    | refine th_r ?_
    | refine w_skip ?_
    | refine w_ret ?_
    | refine w_true rfl ?_
    | refine w_false rfl ?_
    | refine w_condd rfl (fun hc => ?_) (fun hc => ?_)
    | refine w_cond rfl (fun hc => ?_) (fun hc => ?_)
    | refine mv_c rfl ?_
    | refine mv_ptr rfl ?_
    | refine mv_rp rfl ?_
    | refine mv_osl rfl ?_
    | refine mv_sp rfl ?_
    | refine mv_undef rfl ?_
    | refine lss_t rfl rfl (by omega) ?_
    | refine lss_f rfl rfl (by omega) ?_
    | refine lss_ rfl rfl ?_
    | refine addu_in rfl rfl (by omega) ?_
    | refine add_in rfl rfl (by omega) ?_
    | refine addu_ rfl rfl ?_
    | refine bin_ rfl rfl rfl ?_)
  · rw [if_pos (by assumption)]; exact fin_r rfl rfl
  · rw [if_neg (by assumption)]; exact fin_r rfl rfl

/-- how often 'x' is there -/
theorem of_in {C : CallP} {K : Ex → PS → Prop} (l : List Int) (hlen : l.length ≤ 100) (x : Int) (i : Nat) (hi : (l.map encI)[i]? = some (encI x)) (hil : i < l.length) (v6 : PV) : ∀ (rest : List Int) (k : Nat) (n : Int) (s : PS), l.drop k = rest → k ≤ l.length → 0 ≤ n → n ≤ k →
    s.t 0 = .c (encIL l) → s.t 6 = v6 → s.t 8 = .c (.int .i64 i) → s.t 9 = .c (.int .i64 n) → s.t 10 = .c (.int .i64 k) →
    (∀ s', s'.t 0 = .c (encIL l) → s'.t 6 = v6 → s'.t 8 = .c (.int .i64 i) → s'.t 9 = .c (.int .i64 (n + num rest x)) → K (.x 2) s') → wP C (.loop b5_1) s K := by
  intro rest
  induction rest with
  | nil =>
    intro k n s hd hk h0 h1 t0 t6 t8 t9 t10 hx
    refine w_loop ?_
    have hk' := get_iend hd hk
    subst hk'
    rw [← put_same t0, ← put_same t6, ← put_same t8, ← put_same t9, ← put_same t10]
    unfold b5_1 r5_13 r5_14 r5_15 r5_16
    repeat' (first
      | refine len_sl rfl (List.length_map _) ?_
      | refine w_seq ?_
      | refine w_ops ?_
      | refine w_opsD0 rfl ?_
      | refine w_opsD1 rfl (fun u => ?_)
      | refine w_opsD2 rfl (fun u u => ?_)
      | refine w_opsD3 rfl (fun u u u => ?_)
      | refine w_opsD4 rfl (fun u u u u => ?_)
      | refine st_nil ?_
      | refine th_n ?_
      | refine th_x ?_
      | refine th_r ?_
      | refine bk_n ?_
      | refine bk_r ?_
      | refine bk_x ?_
      | refine bk_y (by decide) ?_
      | refine w_block ?_
      | refine w_skip ?_
      | refine w_exit ?_
      | refine w_true rfl ?_
      | refine w_false rfl ?_
      | refine w_condd rfl (fun hc => ?_) (fun hc => ?_)
      | refine w_cond rfl (fun hc => ?_) (fun hc => ?_)
      | refine mv_c rfl ?_
      | refine mv_ptr rfl ?_
      | refine mv_rp rfl ?_
      | refine mv_osl rfl ?_
      | refine mv_sp rfl ?_
      | refine mv_undef rfl ?_
      | refine lss_t rfl rfl (by omega) ?_
      | refine lss_f rfl rfl (by omega) ?_
      | refine lss_ rfl rfl ?_
      | refine eql_t rfl rfl (by omega) ?_
      | refine eql_f rfl rfl (by omega) ?_
      | refine eqd_ rfl rfl ?_
      | refine addu_in rfl rfl (by omega) ?_
      | refine add_in rfl rfl (by omega) ?_
      | refine load_rp rfl (Nat.le_of_ble_eq_true rfl) rfl ?_
      | refine load_ptr rfl (by decide) rfl (Nat.le_of_ble_eq_true rfl) rfl ?_
      | refine load_sp rfl (by decide) rfl (by assumption) (Nat.le_of_ble_eq_true rfl) rfl ?_
      | refine iaS_c rfl rfl (by omega) (by assumption) rfl ?_
      | refine iaS_osl rfl rfl rfl (by omega) rfl ?_
      | refine len_sl rfl (by first | assumption | exact List.length_map _) ?_
      | refine len_sl rfl rfl ?_
      | refine len_osl rfl rfl ?_
      | refine iaS_osl rfl rfl rfl (by first | omega | (simp; omega)) rfl ?_
      | refine len_osl rfl rfl ?_
      | refine addu_ rfl rfl ?_
      | refine bin_ rfl rfl rfl ?_)
    exact hx _ rfl rfl rfl (by simp only [num_nil, Int.add_zero]; rfl)
  | cons a rest ih =>
    intro k n s hd hk h0 h1 t0 t6 t8 t9 t10 hx
    refine w_loop ?_
    have he := get_int hd
    have hl := get_ilen hd
    have hn := get_inext hd
    rw [← put_same t0, ← put_same t6, ← put_same t8, ← put_same t9, ← put_same t10]
    rw [num_cons] at hx
    unfold b5_1 r5_13 r5_14 r5_15 r5_16
    by_cases hax : a = x
    · rw [if_pos hax] at hx
      repeat' (first
        | refine len_sl rfl (List.length_map _) ?_
        | refine w_seq ?_
        | refine w_ops ?_
        | refine w_opsD0 rfl ?_
        | refine w_opsD1 rfl (fun u => ?_)
        | refine w_opsD2 rfl (fun u u => ?_)
        | refine w_opsD3 rfl (fun u u u => ?_)
        | refine w_opsD4 rfl (fun u u u u => ?_)
        | refine st_nil ?_
        | refine th_n ?_
        | refine th_x ?_
        | refine th_r ?_
        | refine bk_n ?_
        | refine bk_r ?_
        | refine bk_x ?_
        | refine bk_y (by decide) ?_
        | refine w_block ?_
        | refine w_skip ?_
        | refine w_exit ?_
        | refine w_true rfl ?_
        | refine w_false rfl ?_
        | refine w_condd rfl (fun hc => ?_) (fun hc => ?_)
        | refine w_cond rfl (fun hc => ?_) (fun hc => ?_)
        | refine mv_c rfl ?_
        | refine mv_ptr rfl ?_
        | refine mv_rp rfl ?_
        | refine mv_osl rfl ?_
        | refine mv_sp rfl ?_
        | refine mv_undef rfl ?_
        | refine lss_t rfl rfl (by omega) ?_
        | refine lss_f rfl rfl (by omega) ?_
        | refine lss_ rfl rfl ?_
        | refine eql_t rfl rfl (by omega) ?_
        | refine eql_f rfl rfl (by omega) ?_
        | refine eqd_ rfl rfl ?_
        | refine addu_in rfl rfl (by omega) ?_
        | refine add_in rfl rfl (by omega) ?_
        | refine load_rp rfl (Nat.le_of_ble_eq_true rfl) rfl ?_
        | refine load_ptr rfl (by decide) rfl (Nat.le_of_ble_eq_true rfl) rfl ?_
        | refine load_sp rfl (by decide) rfl (by assumption) (Nat.le_of_ble_eq_true rfl) rfl ?_
        | refine iaS_c rfl rfl (by omega) (by assumption) rfl ?_
        | refine iaS_osl rfl rfl rfl (by omega) rfl ?_
        | refine len_sl rfl (by first | assumption | exact List.length_map _) ?_
        | refine len_sl rfl rfl ?_
        | refine len_osl rfl rfl ?_
        | refine iaS_osl rfl rfl rfl (by first | omega | (simp; omega)) rfl ?_
        | refine len_osl rfl rfl ?_
        | refine addu_ rfl rfl ?_
        | refine bin_ rfl rfl rfl ?_)
      refine ih (k + 1) (n + 1) _ hn (by omega) (by omega) (by omega) (by rfl) (by rfl) (by rfl) (by rfl) (by rfl) ?_
      rw [show n + 1 + num rest x = n + (num rest x + 1) by omega]
      exact hx
    · rw [if_neg hax] at hx
      repeat' (first
        | refine len_sl rfl (List.length_map _) ?_
        | refine w_seq ?_
        | refine w_ops ?_
        | refine w_opsD0 rfl ?_
        | refine w_opsD1 rfl (fun u => ?_)
        | refine w_opsD2 rfl (fun u u => ?_)
        | refine w_opsD3 rfl (fun u u u => ?_)
        | refine w_opsD4 rfl (fun u u u u => ?_)
        | refine st_nil ?_
        | refine th_n ?_
        | refine th_x ?_
        | refine th_r ?_
        | refine bk_n ?_
        | refine bk_r ?_
        | refine bk_x ?_
        | refine bk_y (by decide) ?_
        | refine w_block ?_
        | refine w_skip ?_
        | refine w_exit ?_
        | refine w_true rfl ?_
        | refine w_false rfl ?_
        | refine w_condd rfl (fun hc => ?_) (fun hc => ?_)
        | refine w_cond rfl (fun hc => ?_) (fun hc => ?_)
        | refine mv_c rfl ?_
        | refine mv_ptr rfl ?_
        | refine mv_rp rfl ?_
        | refine mv_osl rfl ?_
        | refine mv_sp rfl ?_
        | refine mv_undef rfl ?_
        | refine lss_t rfl rfl (by omega) ?_
        | refine lss_f rfl rfl (by omega) ?_
        | refine lss_ rfl rfl ?_
        | refine eql_t rfl rfl (by omega) ?_
        | refine eql_f rfl rfl (by omega) ?_
        | refine eqd_ rfl rfl ?_
        | refine addu_in rfl rfl (by omega) ?_
        | refine add_in rfl rfl (by omega) ?_
        | refine load_rp rfl (Nat.le_of_ble_eq_true rfl) rfl ?_
        | refine load_ptr rfl (by decide) rfl (Nat.le_of_ble_eq_true rfl) rfl ?_
        | refine load_sp rfl (by decide) rfl (by assumption) (Nat.le_of_ble_eq_true rfl) rfl ?_
        | refine iaS_c rfl rfl (by omega) (by assumption) rfl ?_
        | refine iaS_osl rfl rfl rfl (by omega) rfl ?_
        | refine len_sl rfl (by first | assumption | exact List.length_map _) ?_
        | refine len_sl rfl rfl ?_
        | refine len_osl rfl rfl ?_
        | refine iaS_osl rfl rfl rfl (by first | omega | (simp; omega)) rfl ?_
        | refine len_osl rfl rfl ?_
        | refine addu_ rfl rfl ?_
        | refine bin_ rfl rfl rfl ?_)
      refine ih (k + 1) n _ hn (by omega) (by omega) (by omega) (by rfl) (by rfl) (by rfl) (by rfl) (by rfl) ?_
      rw [show n + num rest x = n + (num rest x + 0) by omega]
      exact hx

theorem of_out {K : Ex → PS → Prop} (l : List Int) (hlen : l.length ≤ 100) : ∀ (rest : List Int) (i : Nat) (s : PS), l.drop i = rest → i ≤ l.length →
    s.t 0 = .c (encIL l) → s.t 6 = .c (encL (ofL l)) → s.t 8 = .c (.int .i64 i) →
    (∀ s', s'.t 0 = .c (encIL l) → s'.t 6 = .c (encL (ofL l)) → K (.x 0) s') → wP (PCallG Try.prog) (.loop b5_0) s K := by
  intro rest
  have hlo := (ofL_facts l).2.2.2.2
  have hg : good (ofL l) = true := good_ofL (by omega)
  have hc := (ofL_facts l).2.2.1
  have ha := (ofL_facts l).1
  induction rest with
  | nil =>
    intro i s hd hi t0 t6 t8 hx
    refine w_loop ?_
    have hi' := get_iend hd hi
    subst hi'
    rw [← put_same t0, ← put_same t6, ← put_same t8]
    unfold b5_0 r5_9 r5_10 r5_11 r5_12 r5_17 r5_18
    repeat' (first
      | refine len_sl rfl (List.length_map _) ?_
      | refine w_seq ?_
      | refine w_ops ?_
      | refine st_nil ?_
      | refine th_n ?_
      | refine th_x ?_
      | refine th_r ?_
      | refine bk_n ?_
      | refine bk_r ?_
      | refine bk_x ?_
      | refine bk_y (by decide) ?_
      | refine w_block ?_
      | refine w_skip ?_
      | refine w_exit ?_
      | refine w_ret ?_
      | refine w_true rfl ?_
      | refine w_false rfl ?_
      | refine w_condd rfl (fun hc => ?_) (fun hc => ?_)
      | refine w_cond rfl (fun hc => ?_) (fun hc => ?_)
      | refine mv_c rfl ?_
      | refine mv_ptr rfl ?_
      | refine mv_rp rfl ?_
      | refine mv_osl rfl ?_
      | refine mv_sp rfl ?_
      | refine mv_undef rfl ?_
      | refine lss_t rfl rfl (by omega) ?_
      | refine lss_f rfl rfl (by omega) ?_
      | refine lss_ rfl rfl ?_
      | refine neq_t rfl rfl (by omega) ?_
      | refine neq_f rfl rfl (by omega) ?_
      | refine ned_ rfl rfl ?_
      | refine addu_in rfl rfl (by omega) ?_
      | refine add_in rfl rfl (by omega) ?_
      | refine load_rp rfl (Nat.le_of_ble_eq_true rfl) rfl ?_
      | refine load_ptr rfl (by decide) rfl (Nat.le_of_ble_eq_true rfl) rfl ?_
      | refine load_sp rfl (by decide) rfl (by assumption) (Nat.le_of_ble_eq_true rfl) rfl ?_
      | refine iaS_c rfl rfl (by omega) (by assumption) rfl ?_
      | refine iaS_osl rfl rfl rfl (by omega) rfl ?_
      | refine len_sl rfl (by first | assumption | exact List.length_map _) ?_
      | refine len_sl rfl rfl ?_
      | refine len_osl rfl rfl ?_
      | refine iaS_osl rfl rfl rfl (by first | omega | (simp; omega)) rfl ?_
      | refine len_osl rfl rfl ?_
      | refine addu_ rfl rfl ?_
      | refine bin_ rfl rfl rfl ?_)
    exact hx _ rfl rfl
  | cons a rest ih =>
    intro i s hd hi t0 t6 t8 hx
    refine w_loop ?_
    have he := get_int hd
    have hl := get_ilen hd
    have hn := get_inext hd
    have hH : PCallG Try.prog 30 [.c (encL (ofL l)), .c (.int .i64 a)] (.c (.int .i64 (0 + num l a))) [] := by
      have := C_Has (ofL l) a (by omega)
      rw [hg, if_pos rfl, has_cnt a ha, hc] at this
      rw [Int.zero_add]; exact this
    rw [← put_same t0, ← put_same t6, ← put_same t8]
    unfold b5_0 r5_9 r5_10 r5_11 r5_12 r5_17 r5_18
    repeat' (first
      | refine len_sl rfl (List.length_map _) ?_
      | refine w_seq ?_
      | refine w_ops ?_
      | refine st_nil ?_
      | refine th_n ?_
      | refine th_x ?_
      | refine th_r ?_
      | refine bk_n ?_
      | refine bk_r ?_
      | refine bk_x ?_
      | refine bk_y (by decide) ?_
      | refine w_block ?_
      | refine w_skip ?_
      | refine w_exit ?_
      | refine w_ret ?_
      | refine w_true rfl ?_
      | refine w_false rfl ?_
      | refine w_condd rfl (fun hc => ?_) (fun hc => ?_)
      | refine w_cond rfl (fun hc => ?_) (fun hc => ?_)
      | refine mv_c rfl ?_
      | refine mv_ptr rfl ?_
      | refine mv_rp rfl ?_
      | refine mv_osl rfl ?_
      | refine mv_sp rfl ?_
      | refine mv_undef rfl ?_
      | refine lss_t rfl rfl (by omega) ?_
      | refine lss_f rfl rfl (by omega) ?_
      | refine lss_ rfl rfl ?_
      | refine neq_t rfl rfl (by omega) ?_
      | refine neq_f rfl rfl (by omega) ?_
      | refine ned_ rfl rfl ?_
      | refine addu_in rfl rfl (by omega) ?_
      | refine add_in rfl rfl (by omega) ?_
      | refine load_rp rfl (Nat.le_of_ble_eq_true rfl) rfl ?_
      | refine load_ptr rfl (by decide) rfl (Nat.le_of_ble_eq_true rfl) rfl ?_
      | refine load_sp rfl (by decide) rfl (by assumption) (Nat.le_of_ble_eq_true rfl) rfl ?_
      | refine iaS_c rfl rfl (by omega) (by assumption) rfl ?_
      | refine iaS_osl rfl rfl rfl (by omega) rfl ?_
      | refine len_sl rfl (by first | assumption | exact List.length_map _) ?_
      | refine len_sl rfl rfl ?_
      | refine len_osl rfl rfl ?_
      | refine iaS_osl rfl rfl rfl (by first | omega | (simp; omega)) rfl ?_
      | refine len_osl rfl rfl ?_
      | refine addu_ rfl rfl ?_
      | refine bin_ rfl rfl rfl ?_)
    refine of_in l hlen a i he hl _ l 0 0 _ rfl (by omega) (by omega) (by omega) (by rfl) (by rfl) (by rfl) (by rfl) (by rfl) ?_
    intro s' u0 u6 u8 u9
    rw [← put_same u0, ← put_same u6, ← put_same u8, ← put_same u9]
    repeat' (first
      | refine call2 rfl rfl hH ?_
      | refine w_seq ?_
      | refine w_ops ?_
      | refine st_nil ?_
      | refine th_n ?_
      | refine th_x ?_
      | refine th_r ?_
      | refine bk_n ?_
      | refine bk_r ?_
      | refine bk_x ?_
      | refine bk_y (by decide) ?_
      | refine w_block ?_
      | refine w_skip ?_
      | refine w_exit ?_
      | refine w_ret ?_
      | refine w_true rfl ?_
      | refine w_false rfl ?_
      | refine w_condd rfl (fun hc => ?_) (fun hc => ?_)
      | refine w_cond rfl (fun hc => ?_) (fun hc => ?_)
      | refine mv_c rfl ?_
      | refine mv_ptr rfl ?_
      | refine mv_rp rfl ?_
      | refine mv_osl rfl ?_
      | refine mv_sp rfl ?_
      | refine mv_undef rfl ?_
      | refine lss_t rfl rfl (by omega) ?_
      | refine lss_f rfl rfl (by omega) ?_
      | refine lss_ rfl rfl ?_
      | refine neq_t rfl rfl (by omega) ?_
      | refine neq_f rfl rfl (by omega) ?_
      | refine ned_ rfl rfl ?_
      | refine addu_in rfl rfl (by omega) ?_
      | refine add_in rfl rfl (by omega) ?_
      | refine load_rp rfl (Nat.le_of_ble_eq_true rfl) rfl ?_
      | refine load_ptr rfl (by decide) rfl (Nat.le_of_ble_eq_true rfl) rfl ?_
      | refine load_sp rfl (by decide) rfl (by assumption) (Nat.le_of_ble_eq_true rfl) rfl ?_
      | refine iaS_c rfl rfl (by omega) (by assumption) rfl ?_
      | refine iaS_osl rfl rfl rfl (by omega) rfl ?_
      | refine len_sl rfl (by first | assumption | exact List.length_map _) ?_
      | refine len_sl rfl rfl ?_
      | refine len_osl rfl rfl ?_
      | refine iaS_osl rfl rfl rfl (by first | omega | (simp; omega)) rfl ?_
      | refine len_osl rfl rfl ?_
      | refine addu_ rfl rfl ?_
      | refine bin_ rfl rfl rfl ?_)
    exact ih (i + 1) _ hn (by omega) (by rfl) (by rfl) (by rfl) hx

theorem C_BagOf (l : List Int) (hr : I64s l) (hmax : l.length ≤ 9223372036854775807) (at_ : Int) : PCallG Try.prog 5 [.c (encIL l), .c (.int .i64 at_)] (.c (.bool true)) [] := by
  refine pcallF Try.func5 c5 rfl ?_
  have hw := C_wakes8
  unfold p5 r5_0 r5_1 r5_2 r5_3 r5_4 r5_5 r5_6 r5_7 r5_8 r5_19 r5_20 r5_21
  by_cases hlen : l.length ≤ 100
  · have hM := C_Mod at_ (l.length + 1) (by omega)
    obtain ⟨k1, k2⟩ := modI_in (n := at_) (m := (l.length : Int) + 1) (by omega)
    generalize modI at_ (l.length + 1) = k at *
    obtain ⟨k, rfl⟩ := Int.eq_ofNat_of_zero_le k1
    have c1 := C_Of l (by omega)
    have hp : (l.drop k ++ l.take k).Perm l := by
      have := List.perm_append_comm (l₁ := l.drop k) (l₂ := l.take k)
      rwa [List.take_append_drop] at this
    have c2 := C_Of (l.drop k ++ l.take k) (by rw [hp.length_eq]; omega)
    rw [ofL_perm hp] at c2
    have hlo := (ofL_facts l).2.2.2.2
    have hg : good (ofL l) = true := good_ofL (by omega)
    have c3 := C_good (ofL l) (by omega)
    have c4 := C_Count (ofL l) (by omega)
    rw [hg] at c3
    rw [hg, if_pos rfl, (ofL_facts l).2.2.2.1] at c4
    have d1 : PCallG Try.prog 29 [.c (encL (ofL l)), .c (encL (ofL l))] (.c (.bool true)) [] := by
      have := C_Same (ofL l) (ofL l) (by omega) (by omega)
      rw [decide_eq_true rfl] at this; exact this
    have c5 := C_Total l (by omega) hr
    have c6 := C_Sum (ofL l) (by omega) (ranged_ofL hr (by omega))
    have e6 : tupI (sumB (ofL l)) = totB l := by
      simp only [tupI, sumB, totB, hg, wsum_ofL, totI_sum, true_and]
      split <;> rfl
    rw [e6] at c6
    have c2' : PCallG Try.prog 21 [.c (.sl (((l.map encI).drop k) ++ ((l.map encI).take k)))] (.c (encL (ofL l))) [] := by
      rw [← List.map_drop, ← List.map_take, ← List.map_append]; exact c2
    have w0 : ∀ e ∈ l.map encI, e.length = 1 := fun e he => by obtain ⟨x, _, rfl⟩ := List.mem_map.mp he; rfl
    have w1 : ∀ e ∈ (l.map encI).drop k, e.length = 1 := fun e he => w0 e (List.mem_of_mem_drop he)
    have w2 : ∀ e ∈ (l.map encI).take k, e.length = 1 := fun e he => w0 e (List.mem_of_mem_take he)
    have z1 : ([] : List (List CV)).length + ((l.map encI).drop k).length ≤ maxGrow := by simp [maxGrow]; omega
    have z2 : ((l.map encI).drop k).length + ((l.map encI).take k).length ≤ maxGrow := by simp [maxGrow]; omega
    have s1 : ((l.map encI).take (l.map encI).length).drop k = (l.map encI).drop k := by rw [List.take_length]
    have s2 : ((l.map encI).take k).drop 0 = (l.map encI).take k := rfl
    obtain ⟨p, q, hpq, hpq'⟩ : ∃ p q, totB l = .tup [.int .i64 p, .bool q] ∧ True := by
      unfold totB; split
      · exact ⟨_, _, rfl, trivial⟩
      · exact ⟨_, _, rfl, trivial⟩
    rw [hpq] at c5 c6
    repeat' (first
      | refine len_sl rfl (List.length_map _) ?_
      | refine call1 rfl c1 ?_
      | refine call2 rfl rfl hM ?_
      | refine call1 rfl c2' ?_
      | refine slc_c (i := k) (j := (l.map encI).length) rfl rfl rfl (by simp; omega) w0 s1 ?_
      | refine slc_c (i := 0) (j := k) rfl rfl rfl (by simp; omega) w0 s2 ?_
      | refine app_own rfl rfl rfl rfl z1 w1 (List.nil_append _) rfl (fun _ _ => ?_)
      | refine app_cl rfl rfl rfl rfl z2 w2 rfl (fun _ => ?_)
      | refine call1 rfl c3 ?_
      | refine call1 rfl c4 ?_
      | refine call2 rfl rfl d1 ?_
      | refine w_seq ?_
      | refine w_ops ?_
      | refine w_opsD0 rfl ?_
      | refine w_opsD1 rfl (fun u => ?_)
      | refine w_opsD2 rfl (fun u u => ?_)
      | refine w_opsD3 rfl (fun u u u => ?_)
      | refine w_opsD4 rfl (fun u u u u => ?_)
      | refine st_nil ?_
      | refine th_n ?_
      | refine th_r ?_
      | refine bk_n ?_
      | refine bk_r ?_
      | refine bk_x ?_
      | refine bk_y (by decide) ?_
      | refine w_block ?_
      | refine w_skip ?_
      | refine w_ret ?_
      | refine w_true rfl ?_
      | refine w_false rfl ?_
      | refine w_condd rfl (fun hc => ?_) (fun hc => ?_)
      | refine w_cond rfl (fun hc => ?_) (fun hc => ?_)
      | refine g_yes rfl ?_
      | refine g_no rfl ?_
      | refine g_no' rfl ?_
      | refine g_un rfl ?_
      | refine g_un' rfl ?_
      | refine g_splitd rfl (fun hg => ?_) (fun hg => ?_)
      | refine g_split rfl (fun hg => ?_) (fun hg => ?_)
      | refine mv_c rfl ?_
      | refine mv_ptr rfl ?_
      | refine mv_rp rfl ?_
      | refine mv_osl rfl ?_
      | refine mv_sp rfl ?_
      | refine mv_undef rfl ?_
      | refine pick_t rfl rfl ?_
      | refine pick_f rfl rfl ?_
      | refine gtr_t rfl rfl (by omega) ?_
      | refine gtr_f rfl rfl (by omega) ?_
      | refine gtr_ rfl rfl ?_
      | refine eql_t rfl rfl (by omega) ?_
      | refine eql_f rfl rfl (by omega) ?_
      | refine eqd_ rfl rfl ?_
      | refine neq_t rfl rfl (by omega) ?_
      | refine neq_f rfl rfl (by omega) ?_
      | refine ned_ rfl rfl ?_
      | refine eqlB_ rfl rfl ?_
      | refine neqB_ rfl rfl ?_
      | refine notd_ rfl ?_
      | refine not_ rfl ?_
      | refine addu_in rfl rfl (by omega) ?_
      | refine add_in rfl rfl (by omega) ?_
      | refine bsl_ rfl rfl ?_
      | refine bsl_own rfl rfl rfl (fun u => ?_)
      | refine ext_ rfl rfl ?_
      | refine len_sl rfl (by first | assumption | exact List.length_map _) ?_
      | refine len_sl rfl rfl ?_
      | refine len_osl rfl rfl ?_
      | refine len_osl rfl rfl ?_
      | refine app_own rfl rfl rfl rfl (by first | assumption | omega | (simp; omega)) (by first | (intro e he; cases List.mem_singleton.mp he; rfl) | assumption) rfl rfl (fun _ _ => ?_)
      | refine app_cl rfl rfl rfl rfl (by first | assumption | omega | (simp; omega)) (by first | (intro e he; cases List.mem_singleton.mp he; rfl) | assumption) rfl (fun u => ?_)
      | refine eqs_t rfl rfl rfl ?_
      | refine eqs_f rfl rfl rfl ?_
      | refine un_ rfl rfl ?_
      | refine addu_ rfl rfl ?_
      | refine bin_ rfl rfl rfl ?_)
    refine of_out l hlen l 0 _ rfl (by omega) (by rfl) (by rfl) (by rfl) ?_
    intro s' u0 u6
    rw [← put_same u0, ← put_same u6]
    cases q <;>
    repeat' (first
      | refine call1 rfl c5 ?_
      | refine call1 rfl c6 ?_
      | refine call0 hw ?_
      | refine w_seq ?_
      | refine w_ops ?_
      | refine w_opsD0 rfl ?_
      | refine w_opsD1 rfl (fun u => ?_)
      | refine w_opsD2 rfl (fun u u => ?_)
      | refine w_opsD3 rfl (fun u u u => ?_)
      | refine w_opsD4 rfl (fun u u u u => ?_)
      | refine st_nil ?_
      | refine th_n ?_
      | refine th_r ?_
      | refine bk_n ?_
      | refine bk_r ?_
      | refine bk_x ?_
      | refine bk_y (by decide) ?_
      | refine w_block ?_
      | refine w_skip ?_
      | refine w_ret ?_
      | refine w_true rfl ?_
      | refine w_false rfl ?_
      | refine w_condd rfl (fun hc => ?_) (fun hc => ?_)
      | refine w_cond rfl (fun hc => ?_) (fun hc => ?_)
      | refine g_yes rfl ?_
      | refine g_no rfl ?_
      | refine g_no' rfl ?_
      | refine g_un rfl ?_
      | refine g_un' rfl ?_
      | refine g_splitd rfl (fun hg => ?_) (fun hg => ?_)
      | refine g_split rfl (fun hg => ?_) (fun hg => ?_)
      | refine mv_c rfl ?_
      | refine mv_ptr rfl ?_
      | refine mv_rp rfl ?_
      | refine mv_osl rfl ?_
      | refine mv_sp rfl ?_
      | refine mv_undef rfl ?_
      | refine pick_t rfl rfl ?_
      | refine pick_f rfl rfl ?_
      | refine gtr_t rfl rfl (by omega) ?_
      | refine gtr_f rfl rfl (by omega) ?_
      | refine gtr_ rfl rfl ?_
      | refine eql_t rfl rfl (by omega) ?_
      | refine eql_f rfl rfl (by omega) ?_
      | refine eqd_ rfl rfl ?_
      | refine neq_t rfl rfl (by omega) ?_
      | refine neq_f rfl rfl (by omega) ?_
      | refine ned_ rfl rfl ?_
      | refine eqlB_ rfl rfl ?_
      | refine neqB_ rfl rfl ?_
      | refine notd_ rfl ?_
      | refine not_ rfl ?_
      | refine addu_in rfl rfl (by omega) ?_
      | refine add_in rfl rfl (by omega) ?_
      | refine bsl_ rfl rfl ?_
      | refine bsl_own rfl rfl rfl (fun u => ?_)
      | refine ext_ rfl rfl ?_
      | refine len_sl rfl (by first | assumption | exact List.length_map _) ?_
      | refine len_sl rfl rfl ?_
      | refine len_osl rfl rfl ?_
      | refine len_osl rfl rfl ?_
      | refine app_own rfl rfl rfl rfl (by first | assumption | omega | (simp; omega)) (by first | (intro e he; cases List.mem_singleton.mp he; rfl) | assumption) rfl rfl (fun _ _ => ?_)
      | refine app_cl rfl rfl rfl rfl (by first | assumption | omega | (simp; omega)) (by first | (intro e he; cases List.mem_singleton.mp he; rfl) | assumption) rfl (fun u => ?_)
      | refine eqs_t rfl rfl rfl ?_
      | refine eqs_f rfl rfl rfl ?_
      | refine un_ rfl rfl ?_
      | refine addu_ rfl rfl ?_
      | refine bin_ rfl rfl rfl ?_)
    all_goals exact fin_r rfl rfl
  · repeat' (first
    | refine len_sl rfl (List.length_map _) ?_
    | refine call0 hw ?_
    | refine w_seq ?_
    | refine w_ops ?_
    | refine w_opsD0 rfl ?_
    | refine w_opsD1 rfl (fun u => ?_)
    | refine w_opsD2 rfl (fun u u => ?_)
    | refine w_opsD3 rfl (fun u u u => ?_)
    | refine w_opsD4 rfl (fun u u u u => ?_)
    | refine st_nil ?_
    | refine th_n ?_
    | refine th_r ?_
    | refine bk_n ?_
    | refine bk_r ?_
    | refine bk_x ?_
    | refine bk_y (by decide) ?_
    | refine w_block ?_
    | refine w_skip ?_
    | refine w_ret ?_
    | refine w_true rfl ?_
    | refine w_false rfl ?_
    | refine w_condd rfl (fun hc => ?_) (fun hc => ?_)
    | refine w_cond rfl (fun hc => ?_) (fun hc => ?_)
    | refine g_yes rfl ?_
    | refine g_no rfl ?_
    | refine g_no' rfl ?_
    | refine g_un rfl ?_
    | refine g_un' rfl ?_
    | refine g_splitd rfl (fun hg => ?_) (fun hg => ?_)
    | refine g_split rfl (fun hg => ?_) (fun hg => ?_)
    | refine mv_c rfl ?_
    | refine mv_ptr rfl ?_
    | refine mv_rp rfl ?_
    | refine mv_osl rfl ?_
    | refine mv_sp rfl ?_
    | refine mv_undef rfl ?_
    | refine pick_t rfl rfl ?_
    | refine pick_f rfl rfl ?_
    | refine gtr_t rfl rfl (by omega) ?_
    | refine gtr_f rfl rfl (by omega) ?_
    | refine gtr_ rfl rfl ?_
    | refine eql_t rfl rfl (by omega) ?_
    | refine eql_f rfl rfl (by omega) ?_
    | refine eqd_ rfl rfl ?_
    | refine neq_t rfl rfl (by omega) ?_
    | refine neq_f rfl rfl (by omega) ?_
    | refine ned_ rfl rfl ?_
    | refine eqlB_ rfl rfl ?_
    | refine neqB_ rfl rfl ?_
    | refine notd_ rfl ?_
    | refine not_ rfl ?_
    | refine addu_in rfl rfl (by omega) ?_
    | refine add_in rfl rfl (by omega) ?_
    | refine bsl_ rfl rfl ?_
    | refine bsl_own rfl rfl rfl (fun u => ?_)
    | refine ext_ rfl rfl ?_
    | refine len_sl rfl (by first | assumption | exact List.length_map _) ?_
    | refine len_sl rfl rfl ?_
    | refine len_osl rfl rfl ?_
    | refine len_osl rfl rfl ?_
    | refine app_own rfl rfl rfl rfl (by first | assumption | omega | (simp; omega)) (by first | (intro e he; cases List.mem_singleton.mp he; rfl) | assumption) rfl rfl (fun _ _ => ?_)
    | refine app_cl rfl rfl rfl rfl (by first | assumption | omega | (simp; omega)) (by first | (intro e he; cases List.mem_singleton.mp he; rfl) | assumption) rfl (fun u => ?_)
    | refine eqs_t rfl rfl rfl ?_
    | refine eqs_f rfl rfl rfl ?_
    | refine un_ rfl rfl ?_
    | refine addu_ rfl rfl ?_
    | refine bin_ rfl rfl rfl ?_)
    exact fin_r rfl rfl

theorem L_BagOf (c0 : CV) (h0 : LF.Ok (.sl [.int .i64]) c0) (c1 : CV) (h1 : LF.Ok (.int .i64) c1) : PCallG Try.prog 5 [.c c0, .c c1] (.c (.bool true)) [] := by
  obtain ⟨a, rfl, hr, ha⟩ := ok_ints h0
  obtain ⟨b, rfl, _⟩ := ok_i64 h1
  exact C_BagOf a hr ha b
end Go.Proofs.Ytcmejdkjfekoeaa

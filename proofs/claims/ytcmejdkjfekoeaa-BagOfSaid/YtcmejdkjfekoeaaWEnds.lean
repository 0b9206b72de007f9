import Derived.Test.YtcmejdkjfekoeaaWWakes
import Derived.Test.YtcmejdkjfekoeaaMBag6
namespace Go.Proofs.Ytcmejdkjfekoeaa
open Go.Pl Go.Bag
set_option maxHeartbeats 8000000

theorem get_int {l : List Int} {i : Nat} {a : Int} {rest : List Int} (hd : l.drop i = a :: rest) : (l.map encI)[i]? = some (encI a) := by
  have : l[i]? = some a := by have := congrArg List.head? hd; simpa [List.head?_drop] using this
  simp [this]
theorem get_ilen {l : List Int} {i : Nat} {a : Int} {rest : List Int} (hd : l.drop i = a :: rest) : i < l.length := by
  have := congrArg List.length hd; simp at this; omega
theorem get_inext {l : List Int} {i : Nat} {a : Int} {rest : List Int} (hd : l.drop i = a :: rest) : l.drop (i + 1) = rest := by
  have := congrArg List.tail hd; simpa [List.tail_drop] using this
theorem get_iend {l : List Int} {i : Nat} (hd : l.drop i = []) (hi : i ≤ l.length) : i = l.length := by
  have := List.drop_eq_nil_iff.mp hd; omega

theorem ends_in {C : CallP} {K : Ex → PS → Prop} (l : List Int) (hlen : l.length ≤ 60) (v3 v4 : PV) : ∀ (rest : List Int) (k : Nat) (lo hi : Int) (s : PS), l.drop k = rest → k ≤ l.length →
    s.t 0 = .c (encIL l) → s.t 3 = v3 → s.t 4 = v4 → s.t 5 = .c (.int .i64 lo) → s.t 6 = .c (.int .i64 hi) → s.t 7 = .c (.int .i64 k) →
    (∀ s', s'.t 0 = .c (encIL l) → s'.t 3 = v3 → s'.t 4 = v4 → s'.t 5 = .c (.int .i64 (loF lo rest)) → s'.t 6 = .c (.int .i64 (hiF hi rest)) → K (.x 2) s') → wP C (.loop b3_1) s K := by
  intro rest
  induction rest with
  | nil =>
    intro k lo hi s hd hk t0 t3 t4 t5 t6 t7 hx
    refine w_loop ?_
    have hk' := get_iend hd hk
    subst hk'
    rw [← put_same t0, ← put_same t3, ← put_same t4, ← put_same t5, ← put_same t6, ← put_same t7]
    unfold b3_1 r3_9 r3_10 r3_11
    repeat' (first
      | refine len_sl rfl (List.length_map _) ?_
      | refine w_seq ?_
      | refine w_ops ?_
      | refine w_opsD0 rfl ?_
      | refine w_opsD1 rfl (fun u => ?_)
      | refine w_opsD2 rfl (fun u u => ?_)
      | refine w_opsD3 rfl (fun u u u => ?_)
      | refine w_opsD4 rfl (fun u u u u => ?_)
      | refine st_nil ?_
      | refine th_n ?_
      | refine th_x ?_
      | refine th_r ?_
      | refine bk_n ?_
      | refine bk_r ?_
      | refine bk_x ?_
      | refine bk_y (by decide) ?_
      | refine w_block ?_
      | refine w_skip ?_
      | refine w_exit ?_
      | refine w_true rfl ?_
      | refine w_false rfl ?_
      | refine w_condd rfl (fun hc => ?_) (fun hc => ?_)
      | refine w_cond rfl (fun hc => ?_) (fun hc => ?_)
      | refine mv_c rfl ?_
      | refine mv_ptr rfl ?_
      | refine mv_rp rfl ?_
      | refine mv_osl rfl ?_
      | refine mv_sp rfl ?_
      | refine mv_undef rfl ?_
      | refine lss_t rfl rfl (by omega) ?_
      | refine lss_f rfl rfl (by omega) ?_
      | refine lss_ rfl rfl ?_
      | refine addu_in rfl rfl (by omega) ?_
      | refine add_in rfl rfl (by omega) ?_
      | refine load_rp rfl (Nat.le_of_ble_eq_true rfl) rfl ?_
      | refine load_ptr rfl (by decide) rfl (Nat.le_of_ble_eq_true rfl) rfl ?_
      | refine load_sp rfl (by decide) rfl (by assumption) (Nat.le_of_ble_eq_true rfl) rfl ?_
      | refine iaS_c rfl rfl (by omega) (by assumption) rfl ?_
      | refine iaS_osl rfl rfl rfl (by omega) rfl ?_
      | refine len_sl rfl (by first | assumption | exact List.length_map _) ?_
      | refine len_sl rfl rfl ?_
      | refine len_osl rfl rfl ?_
      | refine iaS_osl rfl rfl rfl (by first | omega | (simp; omega)) rfl ?_
      | refine len_osl rfl rfl ?_
      | refine mm_min rfl rfl ?_
      | refine mm_max rfl rfl ?_
      | refine addu_ rfl rfl ?_
      | refine bin_ rfl rfl rfl ?_)
    exact hx _ rfl rfl rfl rfl rfl
  | cons a rest ih =>
    intro k lo hi s hd hk t0 t3 t4 t5 t6 t7 hx
    refine w_loop ?_
    have he := get_int hd
    have hl := get_ilen hd
    rw [← put_same t0, ← put_same t3, ← put_same t4, ← put_same t5, ← put_same t6, ← put_same t7]
    unfold b3_1 r3_9 r3_10 r3_11
    repeat' (first
      | refine len_sl rfl (List.length_map _) ?_
      | refine w_seq ?_
      | refine w_ops ?_
      | refine w_opsD0 rfl ?_
      | refine w_opsD1 rfl (fun u => ?_)
      | refine w_opsD2 rfl (fun u u => ?_)
      | refine w_opsD3 rfl (fun u u u => ?_)
      | refine w_opsD4 rfl (fun u u u u => ?_)
      | refine st_nil ?_
      | refine th_n ?_
      | refine th_x ?_
      | refine th_r ?_
      | refine bk_n ?_
      | refine bk_r ?_
      | refine bk_x ?_
      | refine bk_y (by decide) ?_
      | refine w_block ?_
      | refine w_skip ?_
      | refine w_exit ?_
      | refine w_true rfl ?_
      | refine w_false rfl ?_
      | refine w_condd rfl (fun hc => ?_) (fun hc => ?_)
      | refine w_cond rfl (fun hc => ?_) (fun hc => ?_)
      | refine mv_c rfl ?_
      | refine mv_ptr rfl ?_
      | refine mv_rp rfl ?_
      | refine mv_osl rfl ?_
      | refine mv_sp rfl ?_
      | refine mv_undef rfl ?_
      | refine lss_t rfl rfl (by omega) ?_
      | refine lss_f rfl rfl (by omega) ?_
      | refine lss_ rfl rfl ?_
      | refine addu_in rfl rfl (by omega) ?_
      | refine add_in rfl rfl (by omega) ?_
      | refine load_rp rfl (Nat.le_of_ble_eq_true rfl) rfl ?_
      | refine load_ptr rfl (by decide) rfl (Nat.le_of_ble_eq_true rfl) rfl ?_
      | refine load_sp rfl (by decide) rfl (by assumption) (Nat.le_of_ble_eq_true rfl) rfl ?_
      | refine iaS_c rfl rfl (by omega) (by assumption) rfl ?_
      | refine iaS_osl rfl rfl rfl (by omega) rfl ?_
      | refine len_sl rfl (by first | assumption | exact List.length_map _) ?_
      | refine len_sl rfl rfl ?_
      | refine len_osl rfl rfl ?_
      | refine iaS_osl rfl rfl rfl (by first | omega | (simp; omega)) rfl ?_
      | refine len_osl rfl rfl ?_
      | refine mm_min rfl rfl ?_
      | refine mm_max rfl rfl ?_
      | refine addu_ rfl rfl ?_
      | refine bin_ rfl rfl rfl ?_)
    exact ih (k + 1) _ _ _ (get_inext hd) (by omega) (by rfl) (by rfl) (by rfl) (by rfl) (by rfl) (by rfl) hx

theorem ends_loop {K : Ex → PS → Prop} (l : List Int) (hlen : l.length ≤ 60) : ∀ (rest : List Int) (i : Nat) (s : PS), l.drop i = rest → i ≤ l.length →
    s.t 0 = .c (encIL l) → s.t 3 = .c (encL (ofL rest)) → s.t 4 = .c (.int .i64 i) →
    (∀ s', s'.t 3 = .c (encL []) → K (.x 0) s') → wP (PCallG Try.prog) (.loop b3_0) s K := by
  intro rest
  induction rest with
  | nil =>
    intro i s hd hi t0 t3 t4 hx
    refine w_loop ?_
    have hi' := get_iend hd hi
    subst hi'
    rw [ofL_nil] at t3
    rw [← put_same t0, ← put_same t3, ← put_same t4]
    unfold b3_0 r3_5 r3_6 r3_7 r3_8 r3_12 r3_13 r3_14 r3_15 r3_16 r3_17 r3_18 r3_19
    repeat' (first
      | refine len_sl rfl (List.length_map _) ?_
      | refine w_seq ?_
      | refine w_ops ?_
      | refine w_opsD0 rfl ?_
      | refine w_opsD1 rfl (fun u => ?_)
      | refine w_opsD2 rfl (fun u u => ?_)
      | refine w_opsD3 rfl (fun u u u => ?_)
      | refine w_opsD4 rfl (fun u u u u => ?_)
      | refine st_nil ?_
      | refine th_n ?_
      | refine th_x ?_
      | refine th_r ?_
      | refine bk_n ?_
      | refine bk_r ?_
      | refine bk_x ?_
      | refine bk_y (by decide) ?_
      | refine w_block ?_
      | refine w_skip ?_
      | refine w_exit ?_
      | refine w_ret ?_
      | refine w_true rfl ?_
      | refine w_false rfl ?_
      | refine w_condd rfl (fun hc => ?_) (fun hc => ?_)
      | refine w_cond rfl (fun hc => ?_) (fun hc => ?_)
      | refine g_yes rfl ?_
      | refine g_no rfl ?_
      | refine g_no' rfl ?_
      | refine g_un rfl ?_
      | refine g_un' rfl ?_
      | refine g_splitd rfl (fun hg => ?_) (fun hg => ?_)
      | refine g_split rfl (fun hg => ?_) (fun hg => ?_)
      | refine mv_c rfl ?_
      | refine mv_ptr rfl ?_
      | refine mv_rp rfl ?_
      | refine mv_osl rfl ?_
      | refine mv_sp rfl ?_
      | refine mv_undef rfl ?_
      | refine pick_t rfl rfl ?_
      | refine pick_f rfl rfl ?_
      | refine lss_t rfl rfl (by omega) ?_
      | refine lss_f rfl rfl (by omega) ?_
      | refine lss_ rfl rfl ?_
      | refine neq_t rfl rfl (by omega) ?_
      | refine neq_f rfl rfl (by omega) ?_
      | refine ned_ rfl rfl ?_
      | refine notd_ rfl ?_
      | refine not_ rfl ?_
      | refine addu_in rfl rfl (by omega) ?_
      | refine add_in rfl rfl (by omega) ?_
      | refine bsl_ rfl rfl ?_
      | refine bsl_own rfl rfl rfl (fun u => ?_)
      | refine load_rp rfl (Nat.le_of_ble_eq_true rfl) rfl ?_
      | refine load_ptr rfl (by decide) rfl (Nat.le_of_ble_eq_true rfl) rfl ?_
      | refine load_sp rfl (by decide) rfl (by assumption) (Nat.le_of_ble_eq_true rfl) rfl ?_
      | refine iaS_c rfl rfl (by omega) (by assumption) rfl ?_
      | refine iaS_osl rfl rfl rfl (by omega) rfl ?_
      | refine ext_ rfl rfl ?_
      | refine len_sl rfl (by first | assumption | exact List.length_map _) ?_
      | refine len_sl rfl rfl ?_
      | refine len_osl rfl rfl ?_
      | refine iaS_osl rfl rfl rfl (by first | omega | (simp; omega)) rfl ?_
      | refine len_osl rfl rfl ?_
      | refine un_ rfl rfl ?_
      | refine addu_ rfl rfl ?_
      | refine bin_ rfl rfl rfl ?_)
    exact hx _ rfl
  | cons a rest ih =>
    intro i s hd hi t0 t3 t4 hx
    refine w_loop ?_
    have he := get_int hd
    have hl := get_ilen hd
    have hlr : rest.length ≤ 60 := by
      have := congrArg List.length hd
      simp at this; omega
    have hlo := (ofL_facts (a :: rest)).2.2.2.2
    simp only [List.length_cons] at hlo
    have hg : good (ofL (a :: rest)) = true := good_ofL (by simp; omega)
    have h1 : PCallG Try.prog 22 [.c (encL (ofL (a :: rest)))] (.c (.tup [.int .i64 (loF a (a :: rest)), .bool true])) [] := by
      have := C_Least (ofL (a :: rest)) (by omega)
      obtain ⟨r, k, e1, e2⟩ := ofL_head a rest
      have e : endB (ofL (a :: rest)) false = (loF a (a :: rest), true) := by
        simp only [endB, hg, if_true, Bool.false_eq_true, if_false]
        rw [e1, ← e2]; rfl
      rw [e] at this; exact this
    have h2 : PCallG Try.prog 23 [.c (encL (ofL (a :: rest)))] (.c (.tup [.int .i64 (hiF a (a :: rest)), .bool true])) [] := by
      have := C_Greatest (ofL (a :: rest)) (by omega)
      obtain ⟨r, k, e1, e2⟩ := ofL_last a rest
      have e : endB (ofL (a :: rest)) true = (hiF a (a :: rest), true) := by
        simp only [endB, hg, if_true]
        rw [e1, ← e2]; simp
      rw [e] at this; exact this
    have h3 : PCallG Try.prog 21 [.c (encIL [a])] (.c (encL (ofL [a]))) [] := C_Of [a] (by simp)
    have h4 : PCallG Try.prog 24 [.c (encL (ofL (a :: rest))), .c (encL (ofL [a]))] (.c (.tup [encL (ofL rest), .bool true])) [] := by
      have := C_Minus (ofL (a :: rest)) (ofL [a]) (by omega) (by have := (ofL_facts [a]).2.2.2.2; simp at this; omega)
      rw [minus_ofL (by omega)] at this; exact this
    have hn := get_inext hd
    rw [← put_same t0, ← put_same t3, ← put_same t4]
    unfold b3_0 r3_5 r3_6 r3_7 r3_8 r3_12 r3_13 r3_14 r3_15 r3_16 r3_17 r3_18 r3_19
    repeat' (first
      | refine len_sl rfl (List.length_map _) ?_
      | refine w_seq ?_
      | refine w_ops ?_
      | refine w_opsD0 rfl ?_
      | refine w_opsD1 rfl (fun u => ?_)
      | refine w_opsD2 rfl (fun u u => ?_)
      | refine w_opsD3 rfl (fun u u u => ?_)
      | refine w_opsD4 rfl (fun u u u u => ?_)
      | refine st_nil ?_
      | refine th_n ?_
      | refine th_x ?_
      | refine th_r ?_
      | refine bk_n ?_
      | refine bk_r ?_
      | refine bk_x ?_
      | refine bk_y (by decide) ?_
      | refine w_block ?_
      | refine w_skip ?_
      | refine w_exit ?_
      | refine w_ret ?_
      | refine w_true rfl ?_
      | refine w_false rfl ?_
      | refine w_condd rfl (fun hc => ?_) (fun hc => ?_)
      | refine w_cond rfl (fun hc => ?_) (fun hc => ?_)
      | refine g_yes rfl ?_
      | refine g_no rfl ?_
      | refine g_no' rfl ?_
      | refine g_un rfl ?_
      | refine g_un' rfl ?_
      | refine g_splitd rfl (fun hg => ?_) (fun hg => ?_)
      | refine g_split rfl (fun hg => ?_) (fun hg => ?_)
      | refine mv_c rfl ?_
      | refine mv_ptr rfl ?_
      | refine mv_rp rfl ?_
      | refine mv_osl rfl ?_
      | refine mv_sp rfl ?_
      | refine mv_undef rfl ?_
      | refine pick_t rfl rfl ?_
      | refine pick_f rfl rfl ?_
      | refine lss_t rfl rfl (by omega) ?_
      | refine lss_f rfl rfl (by omega) ?_
      | refine lss_ rfl rfl ?_
      | refine neq_t rfl rfl (by omega) ?_
      | refine neq_f rfl rfl (by omega) ?_
      | refine ned_ rfl rfl ?_
      | refine notd_ rfl ?_
      | refine not_ rfl ?_
      | refine addu_in rfl rfl (by omega) ?_
      | refine add_in rfl rfl (by omega) ?_
      | refine bsl_ rfl rfl ?_
      | refine bsl_own rfl rfl rfl (fun u => ?_)
      | refine load_rp rfl (Nat.le_of_ble_eq_true rfl) rfl ?_
      | refine load_ptr rfl (by decide) rfl (Nat.le_of_ble_eq_true rfl) rfl ?_
      | refine load_sp rfl (by decide) rfl (by assumption) (Nat.le_of_ble_eq_true rfl) rfl ?_
      | refine iaS_c rfl rfl (by omega) (by assumption) rfl ?_
      | refine iaS_osl rfl rfl rfl (by omega) rfl ?_
      | refine ext_ rfl rfl ?_
      | refine len_sl rfl (by first | assumption | exact List.length_map _) ?_
      | refine len_sl rfl rfl ?_
      | refine len_osl rfl rfl ?_
      | refine iaS_osl rfl rfl rfl (by first | omega | (simp; omega)) rfl ?_
      | refine len_osl rfl rfl ?_
      | refine un_ rfl rfl ?_
      | refine addu_ rfl rfl ?_
      | refine bin_ rfl rfl rfl ?_)
    refine ends_in l hlen _ _ (a :: rest) i a a _ hd (by omega) (by rfl) (by rfl) (by rfl) (by rfl) (by rfl) (by rfl) ?_
    intro s' u0 u3 u4 u5 u6
    rw [← put_same u0, ← put_same u3, ← put_same u4, ← put_same u5, ← put_same u6]
    repeat' (first
      | refine call1 rfl h1 ?_
      | refine call1 rfl h2 ?_
      | refine call1 rfl h3 ?_
      | refine call2 rfl rfl h4 ?_
      | refine len_sl rfl (List.length_map _) ?_
      | refine w_seq ?_
      | refine w_ops ?_
      | refine w_opsD0 rfl ?_
      | refine w_opsD1 rfl (fun u => ?_)
      | refine w_opsD2 rfl (fun u u => ?_)
      | refine w_opsD3 rfl (fun u u u => ?_)
      | refine w_opsD4 rfl (fun u u u u => ?_)
      | refine st_nil ?_
      | refine th_n ?_
      | refine th_x ?_
      | refine th_r ?_
      | refine bk_n ?_
      | refine bk_r ?_
      | refine bk_x ?_
      | refine bk_y (by decide) ?_
      | refine w_block ?_
      | refine w_skip ?_
      | refine w_exit ?_
      | refine w_ret ?_
      | refine w_true rfl ?_
      | refine w_false rfl ?_
      | refine w_condd rfl (fun hc => ?_) (fun hc => ?_)
      | refine w_cond rfl (fun hc => ?_) (fun hc => ?_)
      | refine g_yes rfl ?_
      | refine g_no rfl ?_
      | refine g_no' rfl ?_
      | refine g_un rfl ?_
      | refine g_un' rfl ?_
      | refine g_splitd rfl (fun hg => ?_) (fun hg => ?_)
      | refine g_split rfl (fun hg => ?_) (fun hg => ?_)
      | refine mv_c rfl ?_
      | refine mv_ptr rfl ?_
      | refine mv_rp rfl ?_
      | refine mv_osl rfl ?_
      | refine mv_sp rfl ?_
      | refine mv_undef rfl ?_
      | refine pick_t rfl rfl ?_
      | refine pick_f rfl rfl ?_
      | refine lss_t rfl rfl (by omega) ?_
      | refine lss_f rfl rfl (by omega) ?_
      | refine lss_ rfl rfl ?_
      | refine neq_t rfl rfl (by omega) ?_
      | refine neq_f rfl rfl (by omega) ?_
      | refine ned_ rfl rfl ?_
      | refine notd_ rfl ?_
      | refine not_ rfl ?_
      | refine addu_in rfl rfl (by omega) ?_
      | refine add_in rfl rfl (by omega) ?_
      | refine bsl_ rfl rfl ?_
      | refine bsl_own rfl rfl rfl (fun u => ?_)
      | refine load_rp rfl (Nat.le_of_ble_eq_true rfl) rfl ?_
      | refine load_ptr rfl (by decide) rfl (Nat.le_of_ble_eq_true rfl) rfl ?_
      | refine load_sp rfl (by decide) rfl (by assumption) (Nat.le_of_ble_eq_true rfl) rfl ?_
      | refine iaS_c rfl rfl (by omega) (by assumption) rfl ?_
      | refine iaS_osl rfl rfl rfl (by omega) rfl ?_
      | refine ext_ rfl rfl ?_
      | refine len_sl rfl (by first | assumption | exact List.length_map _) ?_
      | refine len_sl rfl rfl ?_
      | refine len_osl rfl rfl ?_
      | refine iaS_osl rfl rfl rfl (by first | omega | (simp; omega)) rfl ?_
      | refine len_osl rfl rfl ?_
      | refine un_ rfl rfl ?_
      | refine addu_ rfl rfl ?_
      | refine bin_ rfl rfl rfl ?_)
    exact ih (i + 1) _ hn (by omega) (by rfl) (by rfl) (by rfl) hx

theorem C_BagEnds (l : List Int) (hmax : l.length ≤ 9223372036854775807) : PCallG Try.prog 3 [.c (encIL l)] (.c (.bool true)) [] := by
  refine pcallF Try.func3 c3 rfl ?_
  have hw := C_wakes8
  have h0 : PCallG Try.prog 22 [.c (encL [])] (.c (.tup [.int .i64 0, .bool false])) [] := C_Least [] (by decide)
  unfold p3 r3_0 r3_1 r3_2 r3_3 r3_4 r3_20 r3_21
  by_cases hlen : l.length ≤ 60
  · have h1 := C_Of l (by omega)
    repeat' (first
      | refine len_sl rfl (List.length_map _) ?_
      | refine call1 rfl h1 ?_
      | refine w_seq ?_
      | refine w_ops ?_
      | refine st_nil ?_
      | refine th_n ?_
      | refine th_r ?_
      | refine bk_n ?_
      | refine bk_r ?_
      | refine bk_x ?_
      | refine bk_y (by decide) ?_
      | refine w_block ?_
      | refine w_skip ?_
      | refine w_ret ?_
      | refine w_true rfl ?_
      | refine w_false rfl ?_
      | refine w_condd rfl (fun hc => ?_) (fun hc => ?_)
      | refine w_cond rfl (fun hc => ?_) (fun hc => ?_)
      | refine g_yes rfl ?_
      | refine g_no rfl ?_
      | refine g_no' rfl ?_
      | refine g_un rfl ?_
      | refine g_un' rfl ?_
      | refine g_splitd rfl (fun hg => ?_) (fun hg => ?_)
      | refine g_split rfl (fun hg => ?_) (fun hg => ?_)
      | refine mv_c rfl ?_
      | refine mv_ptr rfl ?_
      | refine mv_rp rfl ?_
      | refine mv_osl rfl ?_
      | refine mv_sp rfl ?_
      | refine mv_undef rfl ?_
      | refine pick_t rfl rfl ?_
      | refine pick_f rfl rfl ?_
      | refine gtr_t rfl rfl (by omega) ?_
      | refine gtr_f rfl rfl (by omega) ?_
      | refine gtr_ rfl rfl ?_
      | refine eql_t rfl rfl (by omega) ?_
      | refine eql_f rfl rfl (by omega) ?_
      | refine eqd_ rfl rfl ?_
      | refine notd_ rfl ?_
      | refine not_ rfl ?_
      | refine ext_ rfl rfl ?_
      | refine len_sl rfl (by first | assumption | exact List.length_map _) ?_
      | refine len_sl rfl rfl ?_
      | refine len_osl rfl rfl ?_
      | refine len_osl rfl rfl ?_
      | refine un_ rfl rfl ?_
      | refine bin_ rfl rfl rfl ?_)
    refine ends_loop l hlen l 0 _ rfl (by omega) (by rfl) (by rfl) (by rfl) ?_
    intro s' t3
    rw [← put_same t3]
    repeat' (first
      | refine call1 rfl h0 ?_
      | refine call0 hw ?_
      | refine w_seq ?_
      | refine w_ops ?_
      | refine st_nil ?_
      | refine th_n ?_
      | refine th_r ?_
      | refine bk_n ?_
      | refine bk_r ?_
      | refine bk_x ?_
      | refine bk_y (by decide) ?_
      | refine w_block ?_
      | refine w_skip ?_
      | refine w_ret ?_
      | refine w_true rfl ?_
      | refine w_false rfl ?_
      | refine w_condd rfl (fun hc => ?_) (fun hc => ?_)
      | refine w_cond rfl (fun hc => ?_) (fun hc => ?_)
      | refine g_yes rfl ?_
      | refine g_no rfl ?_
      | refine g_no' rfl ?_
      | refine g_un rfl ?_
      | refine g_un' rfl ?_
      | refine g_splitd rfl (fun hg => ?_) (fun hg => ?_)
      | refine g_split rfl (fun hg => ?_) (fun hg => ?_)
      | refine mv_c rfl ?_
      | refine mv_ptr rfl ?_
      | refine mv_rp rfl ?_
      | refine mv_osl rfl ?_
      | refine mv_sp rfl ?_
      | refine mv_undef rfl ?_
      | refine pick_t rfl rfl ?_
      | refine pick_f rfl rfl ?_
      | refine gtr_t rfl rfl (by omega) ?_
      | refine gtr_f rfl rfl (by omega) ?_
      | refine gtr_ rfl rfl ?_
      | refine eql_t rfl rfl (by omega) ?_
      | refine eql_f rfl rfl (by omega) ?_
      | refine eqd_ rfl rfl ?_
      | refine notd_ rfl ?_
      | refine not_ rfl ?_
      | refine ext_ rfl rfl ?_
      | refine len_sl rfl (by first | assumption | exact List.length_map _) ?_
      | refine len_sl rfl rfl ?_
      | refine len_osl rfl rfl ?_
      | refine len_osl rfl rfl ?_
      | refine un_ rfl rfl ?_
      | refine bin_ rfl rfl rfl ?_)
    exact fin_r rfl rfl
  · repeat' (first
    | refine len_sl rfl (List.length_map _) ?_
    | refine call0 hw ?_
    | refine w_seq ?_
    | refine w_ops ?_
    | refine st_nil ?_
    | refine th_n ?_
    | refine th_r ?_
    | refine bk_n ?_
    | refine bk_r ?_
    | refine bk_x ?_
    | refine bk_y (by decide) ?_
    | refine w_block ?_
    | refine w_skip ?_
    | refine w_ret ?_
    | refine w_true rfl ?_
    | refine w_false rfl ?_
    | refine w_condd rfl (fun hc => ?_) (fun hc => ?_)
    | refine w_cond rfl (fun hc => ?_) (fun hc => ?_)
    | refine g_yes rfl ?_
    | refine g_no rfl ?_
    | refine g_no' rfl ?_
    | refine g_un rfl ?_
    | refine g_un' rfl ?_
    | refine g_splitd rfl (fun hg => ?_) (fun hg => ?_)
    | refine g_split rfl (fun hg => ?_) (fun hg => ?_)
    | refine mv_c rfl ?_
    | refine mv_ptr rfl ?_
    | refine mv_rp rfl ?_
    | refine mv_osl rfl ?_
    | refine mv_sp rfl ?_
    | refine mv_undef rfl ?_
    | refine pick_t rfl rfl ?_
    | refine pick_f rfl rfl ?_
    | refine gtr_t rfl rfl (by omega) ?_
    | refine gtr_f rfl rfl (by omega) ?_
    | refine gtr_ rfl rfl ?_
    | refine eql_t rfl rfl (by omega) ?_
    | refine eql_f rfl rfl (by omega) ?_
    | refine eqd_ rfl rfl ?_
    | refine notd_ rfl ?_
    | refine not_ rfl ?_
    | refine ext_ rfl rfl ?_
    | refine len_sl rfl (by first | assumption | exact List.length_map _) ?_
    | refine len_sl rfl rfl ?_
    | refine len_osl rfl rfl ?_
    | refine len_osl rfl rfl ?_
    | refine un_ rfl rfl ?_
    | refine bin_ rfl rfl rfl ?_)
    exact fin_r rfl rfl

/-- what a slice of int64 is, as a row hands it in -/
theorem ok_ints {c : CV} (h : LF.Ok (.sl [.int .i64]) c) : ∃ l, c = encIL l ∧ I64s l ∧ l.length ≤ 9223372036854775807 := by
  cases h with
  | sl _ es hn hl hh =>
    have : ∀ e ∈ es, ∃ a, e = encI a ∧ I64 a := fun e he => by
      have h1 := hl e he
      match e, h1, hh e he with
      | [c], _, hh =>
        have := hh 0 (by simp) (by simp)
        cases this with
        | int _ a hw => exact ⟨a, rfl, by simpa [Lit.wf, IntKind.min, IntKind.max, IntKind.signed, IntKind.bits, I64] using hw⟩
    clear hl hh
    have : ∃ l, es = l.map encI ∧ I64s l := by
      induction es with
      | nil => exact ⟨[], rfl, fun a ha => by simp at ha⟩
      | cons e es ih =>
        obtain ⟨a, rfl, ha⟩ := this e (by simp)
        obtain ⟨l, rfl, hl⟩ := ih (by simp at hn; omega) (fun q hq => this q (by simp [hq]))
        exact ⟨a :: l, rfl, fun b hb => by
          rcases List.mem_cons.mp hb with rfl | hb
          · exact ha
          · exact hl b hb⟩
    obtain ⟨l, rfl, hl⟩ := this
    exact ⟨l, rfl, hl, by simpa [maxLen] using hn⟩

theorem L_BagEnds (c : CV) (h : LF.Ok (.sl [.int .i64]) c) : PCallG Try.prog 3 [.c c] (.c (.bool true)) [] := by
  obtain ⟨l, rfl, _, hl⟩ := ok_ints h
  exact C_BagEnds l hl
end Go.Proofs.Ytcmejdkjfekoeaa

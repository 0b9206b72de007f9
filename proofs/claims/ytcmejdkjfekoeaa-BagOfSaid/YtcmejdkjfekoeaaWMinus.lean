import Derived.Test.YtcmejdkjfekoeaaWMore
import Derived.Test.YtcmejdkjfekoeaaWJoin
import Derived.Test.YtcmejdkjfekoeaaMBag3
namespace Go.Proofs.Ytcmejdkjfekoeaa
open Go.Pl Go.Bag
set_option maxHeartbeats 4000000

theorem minus_loop {C : CallP} {K : Ex → PS → Prop} (l : List Run) (hlen : l.length < 400000000) : ∀ (rest : List Run) (i : Nat) (out b : List Run) (es : List (List CV)) (s : PS), l.drop i = rest → i ≤ l.length → es = encE out → out.length + rest.length < 1000000000 → b.length < 400000000 →
    (∀ r ∈ rest, 1 ≤ r.2 ∧ r.2 ≤ 1099511627776) → (∀ r ∈ b, 1 ≤ r.2 ∧ r.2 ≤ 1099511627776) →
    s.t 17 = .c (encL l) → s.t 18 = .c (.int .i64 l.length) → s.t 19 = .c (.int .i64 i) → s.t 1 = .c (encL b) → s.t 6 = .osl 6 (s.bx 6).ver 0 es.length → s.bx 6 = ⟨(s.bx 6).ver, .sl 2 es⟩ →
    (∀ s' o b', minusL out rest b = some (o, b') → b'.length < 400000000 → s'.t 1 = .c (encL b') → s'.t 6 = .osl 6 (s'.bx 6).ver 0 (encE o).length → s'.bx 6 = ⟨(s'.bx 6).ver, .sl 2 (encE o)⟩ → K (.x 0) s') →
    (∀ s', minusL out rest b = none → s'.t 4 = .c (.sl []) → s'.t 5 = .c (.bool false) → K .r s') → wP C (.loop b24_0) s K := by
  intro rest
  induction rest with
  | nil =>
    intro i out b es s hd hi he hl hb ha1 hb1 t17 t18 t19 t1 t6 b6 hx hr
    refine w_loop ?_
    have := get_end hd hi
    subst this
    subst he
    generalize (s.bx 6).ver = v6 at t6 b6
    rw [← put_same t18, ← put_same t19, ← put_same t1, ← put_same t6, ← box_same b6]
    unfold b24_0 r24_5 r24_6 r24_7 r24_8 r24_9 r24_10 r24_11 r24_12 r24_13 r24_14
    repeat' (first
      | refine w_seq ?_
      | refine w_ops ?_
      | refine w_opsD0 rfl ?_
      | refine w_opsD1 rfl (fun u => ?_)
      | refine w_opsD2 rfl (fun u u => ?_)
      | refine w_opsD3 rfl (fun u u u => ?_)
      | refine w_opsD4 rfl (fun u u u u => ?_)
      | refine st_nil ?_
      | refine th_n ?_
      | refine th_x ?_
      | refine th_r ?_
      | refine bk_n ?_
      | refine bk_r ?_
      | refine bk_x ?_
      | refine bk_y (by decide) ?_
      | refine w_block ?_
      | refine w_skip ?_
      | refine w_exit ?_
      | refine w_ret ?_
      | refine w_true rfl ?_
      | refine w_false rfl ?_
      | refine w_condd rfl (fun hc => ?_) (fun hc => ?_)
      | refine w_cond rfl (fun hc => ?_) (fun hc => ?_)
      | refine g_yes rfl ?_
      | refine g_no rfl ?_
      | refine g_no' rfl ?_
      | refine g_un rfl ?_
      | refine g_un' rfl ?_
      | refine g_splitd rfl (fun hg => ?_) (fun hg => ?_)
      | refine g_split rfl (fun hg => ?_) (fun hg => ?_)
      | refine mv_c rfl ?_
      | refine mv_ptr rfl ?_
      | refine mv_rp rfl ?_
      | refine mv_osl rfl ?_
      | refine mv_sp rfl ?_
      | refine mv_undef rfl ?_
      | refine pick_t rfl rfl ?_
      | refine pick_f rfl rfl ?_
      | refine lss_t rfl rfl (by omega) ?_
      | refine lss_f rfl rfl (by omega) ?_
      | refine lss_ rfl rfl ?_
      | refine gtr_t rfl rfl (by omega) ?_
      | refine gtr_f rfl rfl (by omega) ?_
      | refine gtr_ rfl rfl ?_
      | refine eql_t rfl rfl (by omega) ?_
      | refine eql_f rfl rfl (by omega) ?_
      | refine eqd_ rfl rfl ?_
      | refine addu_in rfl rfl (by omega) ?_
      | refine subu_in rfl rfl (by omega) ?_
      | refine add_in rfl rfl (by omega) ?_
      | refine sub_in rfl rfl (by omega) ?_
      | refine alloc_ (fun u => ?_)
      | refine bsl_ rfl rfl ?_
      | refine bsl_own rfl rfl rfl (fun u => ?_)
      | refine load_rp rfl (Nat.le_of_ble_eq_true rfl) rfl ?_
      | refine load_ptr rfl (by decide) rfl (Nat.le_of_ble_eq_true rfl) rfl ?_
      | refine load_sp rfl (by decide) rfl (by assumption) (Nat.le_of_ble_eq_true rfl) rfl ?_
      | refine store_ptr rfl rfl (by decide) rfl rfl (Nat.le_of_ble_eq_true rfl) rfl ?_
      | refine store_sp rfl rfl (by decide) rfl (by assumption) rfl (Nat.le_of_ble_eq_true rfl) rfl ?_
      | refine fad_ptr rfl rfl rfl ?_
      | refine fad_rp rfl (Nat.le_of_ble_eq_true rfl) rfl ?_
      | refine fad_sp rfl rfl rfl ?_
      | refine iaS_c rfl rfl (by omega) (by assumption) rfl ?_
      | refine iaS_osl rfl rfl rfl (by omega) rfl ?_
      | refine len_sl rfl (by first | assumption | exact List.length_map _) ?_
      | refine len_sl rfl rfl ?_
      | refine len_osl rfl rfl ?_
      | refine iaS_osl rfl rfl rfl (by first | omega | (simp; omega)) rfl ?_
      | refine len_osl rfl rfl ?_
      | refine w_rn_same rfl ?_
      | refine w_rn rfl (by decide) rfl rfl (fun _ _ => ?_)
      | refine app_own rfl rfl rfl rfl (by first | assumption | omega | (simp; omega)) (by first | (intro e he; cases List.mem_singleton.mp he; rfl) | assumption) rfl rfl (fun _ _ => ?_)
      | refine app_cl rfl rfl rfl rfl (by first | assumption | omega | (simp; omega)) (by first | (intro e he; cases List.mem_singleton.mp he; rfl) | assumption) rfl (fun u => ?_)
      | refine addu_ rfl rfl ?_
      | refine subu_ rfl rfl ?_
      | refine bin_ rfl rfl rfl ?_)
    exact hx _ out b rfl hb (by rfl) (by rfl) (by rfl)
  | cons r rest ih =>
    intro i out b es s hd hi he hl hb ha1 hb1 t17 t18 t19 t1 t6 b6 hx hr
    refine w_loop ?_
    have hget := get_enc hd
    have hil := get_len hd
    have hn := get_next hd
    have hr1 := ha1 r (by simp)
    have ha1' : ∀ q ∈ rest, 1 ≤ q.2 ∧ q.2 ≤ 1099511627776 := fun q hq => ha1 q (by simp [hq])
    have hlr : (r :: rest).length = rest.length + 1 := rfl
    have hgrow : ∀ q : List CV, es.length + [q].length ≤ maxGrow := fun q => by
      subst he; simp [encE, maxGrow]; omega
    have hzs : ∀ n, es ++ [[.int .i64 r.1, .int .i64 n]] = encE (out ++ [(r.1, n)]) := fun n => by subst he; simp [encE, encR]
    generalize (s.bx 6).ver = v6 at t6 b6
    rw [← put_same t17, ← put_same t18, ← put_same t19, ← put_same t1, ← put_same t6, ← box_same b6]
    unfold b24_0 r24_5 r24_6 r24_7 r24_8 r24_9 r24_10 r24_11 r24_12 r24_13 r24_14
    match b, hb, hb1 with
    | [], hb, hb1 =>
      have e : minusL out (r :: rest) [] = minusL (out ++ [(r.1, r.2)]) rest [] := by
        have : ¬ r.2 < 0 := by omega
        have : 0 < r.2 := by omega
        simp [minusL, takeB, *]
      rw [e] at hx hr
      repeat' (first
        | refine len_sl (es := ([] : List Run).map encR) rfl rfl ?_
        | refine app_own rfl rfl rfl rfl (hgrow _) (by intro e he; cases List.mem_singleton.mp he; rfl) rfl rfl (fun _ _ => ?_)
        | refine w_seq ?_
        | refine w_ops ?_
        | refine w_opsD0 rfl ?_
        | refine w_opsD1 rfl (fun u => ?_)
        | refine w_opsD2 rfl (fun u u => ?_)
        | refine w_opsD3 rfl (fun u u u => ?_)
        | refine w_opsD4 rfl (fun u u u u => ?_)
        | refine st_nil ?_
        | refine th_n ?_
        | refine th_x ?_
        | refine th_r ?_
        | refine bk_n ?_
        | refine bk_r ?_
        | refine bk_x ?_
        | refine bk_y (by decide) ?_
        | refine w_block ?_
        | refine w_skip ?_
        | refine w_exit ?_
        | refine w_ret ?_
        | refine w_true rfl ?_
        | refine w_false rfl ?_
        | refine w_condd rfl (fun hc => ?_) (fun hc => ?_)
        | refine w_cond rfl (fun hc => ?_) (fun hc => ?_)
        | refine g_yes rfl ?_
        | refine g_no rfl ?_
        | refine g_no' rfl ?_
        | refine g_un rfl ?_
        | refine g_un' rfl ?_
        | refine g_splitd rfl (fun hg => ?_) (fun hg => ?_)
        | refine g_split rfl (fun hg => ?_) (fun hg => ?_)
        | refine mv_c rfl ?_
        | refine mv_ptr rfl ?_
        | refine mv_rp rfl ?_
        | refine mv_osl rfl ?_
        | refine mv_sp rfl ?_
        | refine mv_undef rfl ?_
        | refine pick_t rfl rfl ?_
        | refine pick_f rfl rfl ?_
        | refine lss_t rfl rfl (by omega) ?_
        | refine lss_f rfl rfl (by omega) ?_
        | refine lss_ rfl rfl ?_
        | refine gtr_t rfl rfl (by omega) ?_
        | refine gtr_f rfl rfl (by omega) ?_
        | refine gtr_ rfl rfl ?_
        | refine eql_t rfl rfl (by omega) ?_
        | refine eql_f rfl rfl (by omega) ?_
        | refine eqd_ rfl rfl ?_
        | refine addu_in rfl rfl (by omega) ?_
        | refine subu_in rfl rfl (by omega) ?_
        | refine add_in rfl rfl (by omega) ?_
        | refine sub_in rfl rfl (by omega) ?_
        | refine alloc_ (fun u => ?_)
        | refine bsl_ rfl rfl ?_
        | refine bsl_own rfl rfl rfl (fun u => ?_)
        | refine load_rp rfl (Nat.le_of_ble_eq_true rfl) rfl ?_
        | refine load_ptr rfl (by decide) rfl (Nat.le_of_ble_eq_true rfl) rfl ?_
        | refine load_sp rfl (by decide) rfl (by assumption) (Nat.le_of_ble_eq_true rfl) rfl ?_
        | refine store_ptr rfl rfl (by decide) rfl rfl (Nat.le_of_ble_eq_true rfl) rfl ?_
        | refine store_sp rfl rfl (by decide) rfl (by assumption) rfl (Nat.le_of_ble_eq_true rfl) rfl ?_
        | refine fad_ptr rfl rfl rfl ?_
        | refine fad_rp rfl (Nat.le_of_ble_eq_true rfl) rfl ?_
        | refine fad_sp rfl rfl rfl ?_
        | refine iaS_c rfl rfl (by omega) (by assumption) rfl ?_
        | refine iaS_osl rfl rfl rfl (by omega) rfl ?_
        | refine len_sl rfl (by first | assumption | exact List.length_map _) ?_
        | refine len_sl rfl rfl ?_
        | refine len_osl rfl rfl ?_
        | refine iaS_osl rfl rfl rfl (by first | omega | (simp; omega)) rfl ?_
        | refine len_osl rfl rfl ?_
        | refine w_rn_same rfl ?_
        | refine w_rn rfl (by decide) rfl rfl (fun _ _ => ?_)
        | refine app_own rfl rfl rfl rfl (by first | assumption | omega | (simp; omega)) (by first | (intro e he; cases List.mem_singleton.mp he; rfl) | assumption) rfl rfl (fun _ _ => ?_)
        | refine app_cl rfl rfl rfl rfl (by first | assumption | omega | (simp; omega)) (by first | (intro e he; cases List.mem_singleton.mp he; rfl) | assumption) rfl (fun u => ?_)
        | refine addu_ rfl rfl ?_
        | refine subu_ rfl rfl ?_
        | refine bin_ rfl rfl rfl ?_)
      exact ih (i + 1) (out ++ [(r.1, r.2)]) [] _ _ hn (by omega) (hzs r.2) (by simp; omega) hb ha1' hb1 (by rfl) (by rfl) (by rfl) (by rfl) (by rfl) (by rfl) hx hr
    | q :: b', hb, hb1 =>
      have hq1 := hb1 q (by simp)
      have hb1' : ∀ q ∈ b', 1 ≤ q.2 ∧ q.2 ≤ 1099511627776 := fun p hp => hb1 p (by simp [hp])
      have hb' : b'.length < 400000000 := by simp at hb; omega
      have h0 : ((q :: b').map encR)[(0 : Int).toNat]? = some (encR q) := rfl
      have hp : 0 < (q :: b').length := by simp
      by_cases hv : q.1 = r.1
      · have e : minusL out (r :: rest) (q :: b') = if r.2 - q.2 < 0 then none else minusL (if 0 < r.2 - q.2 then out ++ [(r.1, r.2 - q.2)] else out) rest b' := by
          simp only [minusL, takeB, hv, if_true]
        repeat' (first
          | refine slc_tail (es := b'.map encR) rfl (encR_len (q :: b')) ?_
          | refine app_own rfl rfl rfl rfl (hgrow _) (by intro e he; cases List.mem_singleton.mp he; rfl) rfl rfl (fun _ _ => ?_)
          | refine w_seq ?_
          | refine w_ops ?_
          | refine w_opsD0 rfl ?_
          | refine w_opsD1 rfl (fun u => ?_)
          | refine w_opsD2 rfl (fun u u => ?_)
          | refine w_opsD3 rfl (fun u u u => ?_)
          | refine w_opsD4 rfl (fun u u u u => ?_)
          | refine st_nil ?_
          | refine th_n ?_
          | refine th_x ?_
          | refine th_r ?_
          | refine bk_n ?_
          | refine bk_r ?_
          | refine bk_x ?_
          | refine bk_y (by decide) ?_
          | refine w_block ?_
          | refine w_skip ?_
          | refine w_exit ?_
          | refine w_ret ?_
          | refine w_true rfl ?_
          | refine w_false rfl ?_
          | refine w_condd rfl (fun hc => ?_) (fun hc => ?_)
          | refine w_cond rfl (fun hc => ?_) (fun hc => ?_)
          | refine g_yes rfl ?_
          | refine g_no rfl ?_
          | refine g_no' rfl ?_
          | refine g_un rfl ?_
          | refine g_un' rfl ?_
          | refine g_splitd rfl (fun hg => ?_) (fun hg => ?_)
          | refine g_split rfl (fun hg => ?_) (fun hg => ?_)
          | refine mv_c rfl ?_
          | refine mv_ptr rfl ?_
          | refine mv_rp rfl ?_
          | refine mv_osl rfl ?_
          | refine mv_sp rfl ?_
          | refine mv_undef rfl ?_
          | refine pick_t rfl rfl ?_
          | refine pick_f rfl rfl ?_
          | refine lss_t rfl rfl (by omega) ?_
          | refine lss_f rfl rfl (by omega) ?_
          | refine lss_ rfl rfl ?_
          | refine gtr_t rfl rfl (by omega) ?_
          | refine gtr_f rfl rfl (by omega) ?_
          | refine gtr_ rfl rfl ?_
          | refine eql_t rfl rfl (by omega) ?_
          | refine eql_f rfl rfl (by omega) ?_
          | refine eqd_ rfl rfl ?_
          | refine addu_in rfl rfl (by omega) ?_
          | refine subu_in rfl rfl (by omega) ?_
          | refine add_in rfl rfl (by omega) ?_
          | refine sub_in rfl rfl (by omega) ?_
          | refine alloc_ (fun u => ?_)
          | refine bsl_ rfl rfl ?_
          | refine bsl_own rfl rfl rfl (fun u => ?_)
          | refine load_rp rfl (Nat.le_of_ble_eq_true rfl) rfl ?_
          | refine load_ptr rfl (by decide) rfl (Nat.le_of_ble_eq_true rfl) rfl ?_
          | refine load_sp rfl (by decide) rfl (by assumption) (Nat.le_of_ble_eq_true rfl) rfl ?_
          | refine store_ptr rfl rfl (by decide) rfl rfl (Nat.le_of_ble_eq_true rfl) rfl ?_
          | refine store_sp rfl rfl (by decide) rfl (by assumption) rfl (Nat.le_of_ble_eq_true rfl) rfl ?_
          | refine fad_ptr rfl rfl rfl ?_
          | refine fad_rp rfl (Nat.le_of_ble_eq_true rfl) rfl ?_
          | refine fad_sp rfl rfl rfl ?_
          | refine iaS_c rfl rfl (by omega) (by assumption) rfl ?_
          | refine iaS_osl rfl rfl rfl (by omega) rfl ?_
          | refine len_sl rfl (by first | assumption | exact List.length_map _) ?_
          | refine len_sl rfl rfl ?_
          | refine len_osl rfl rfl ?_
          | refine iaS_osl rfl rfl rfl (by first | omega | (simp; omega)) rfl ?_
          | refine len_osl rfl rfl ?_
          | refine w_rn_same rfl ?_
          | refine w_rn rfl (by decide) rfl rfl (fun _ _ => ?_)
          | refine app_own rfl rfl rfl rfl (by first | assumption | omega | (simp; omega)) (by first | (intro e he; cases List.mem_singleton.mp he; rfl) | assumption) rfl rfl (fun _ _ => ?_)
          | refine app_cl rfl rfl rfl rfl (by first | assumption | omega | (simp; omega)) (by first | (intro e he; cases List.mem_singleton.mp he; rfl) | assumption) rfl (fun u => ?_)
          | refine addu_ rfl rfl ?_
          | refine subu_ rfl rfl ?_
          | refine bin_ rfl rfl rfl ?_)
        · rw [if_pos hc] at e
          exact hr _ e rfl rfl
        · rw [if_neg ‹¬ (r.2 - q.2 < 0)›, if_pos hc] at e
          rw [e] at hx hr
          exact ih (i + 1) (out ++ [(r.1, r.2 - q.2)]) b' _ _ hn (by omega) (hzs (r.2 - q.2)) (by simp; omega) hb' ha1' hb1' (by rfl) (by rfl) (by rfl) (by rfl) (by rfl) (by rfl) hx hr
        · rw [if_neg ‹¬ (r.2 - q.2 < 0)›, if_neg hc] at e
          rw [e] at hx hr
          exact ih (i + 1) out b' es _ hn (by omega) he (by omega) hb' ha1' hb1' (by rfl) (by rfl) (by rfl) (by rfl) (by rfl) (by rfl) hx hr
      · have e : minusL out (r :: rest) (q :: b') = minusL (out ++ [(r.1, r.2)]) rest (q :: b') := by
          have h1 : ¬ r.2 < 0 := by omega
          have h2 : 0 < r.2 := by omega
          simp only [minusL, takeB, if_neg hv, if_neg h1, if_pos h2]
        rw [e] at hx hr
        repeat' (first
          | refine app_own rfl rfl rfl rfl (hgrow _) (by intro e he; cases List.mem_singleton.mp he; rfl) rfl rfl (fun _ _ => ?_)
          | refine w_seq ?_
          | refine w_ops ?_
          | refine w_opsD0 rfl ?_
          | refine w_opsD1 rfl (fun u => ?_)
          | refine w_opsD2 rfl (fun u u => ?_)
          | refine w_opsD3 rfl (fun u u u => ?_)
          | refine w_opsD4 rfl (fun u u u u => ?_)
          | refine st_nil ?_
          | refine th_n ?_
          | refine th_x ?_
          | refine th_r ?_
          | refine bk_n ?_
          | refine bk_r ?_
          | refine bk_x ?_
          | refine bk_y (by decide) ?_
          | refine w_block ?_
          | refine w_skip ?_
          | refine w_exit ?_
          | refine w_ret ?_
          | refine w_true rfl ?_
          | refine w_false rfl ?_
          | refine w_condd rfl (fun hc => ?_) (fun hc => ?_)
          | refine w_cond rfl (fun hc => ?_) (fun hc => ?_)
          | refine g_yes rfl ?_
          | refine g_no rfl ?_
          | refine g_no' rfl ?_
          | refine g_un rfl ?_
          | refine g_un' rfl ?_
          | refine g_splitd rfl (fun hg => ?_) (fun hg => ?_)
          | refine g_split rfl (fun hg => ?_) (fun hg => ?_)
          | refine mv_c rfl ?_
          | refine mv_ptr rfl ?_
          | refine mv_rp rfl ?_
          | refine mv_osl rfl ?_
          | refine mv_sp rfl ?_
          | refine mv_undef rfl ?_
          | refine pick_t rfl rfl ?_
          | refine pick_f rfl rfl ?_
          | refine lss_t rfl rfl (by omega) ?_
          | refine lss_f rfl rfl (by omega) ?_
          | refine lss_ rfl rfl ?_
          | refine gtr_t rfl rfl (by omega) ?_
          | refine gtr_f rfl rfl (by omega) ?_
          | refine gtr_ rfl rfl ?_
          | refine eql_t rfl rfl (by omega) ?_
          | refine eql_f rfl rfl (by omega) ?_
          | refine eqd_ rfl rfl ?_
          | refine addu_in rfl rfl (by omega) ?_
          | refine subu_in rfl rfl (by omega) ?_
          | refine add_in rfl rfl (by omega) ?_
          | refine sub_in rfl rfl (by omega) ?_
          | refine alloc_ (fun u => ?_)
          | refine bsl_ rfl rfl ?_
          | refine bsl_own rfl rfl rfl (fun u => ?_)
          | refine load_rp rfl (Nat.le_of_ble_eq_true rfl) rfl ?_
          | refine load_ptr rfl (by decide) rfl (Nat.le_of_ble_eq_true rfl) rfl ?_
          | refine load_sp rfl (by decide) rfl (by assumption) (Nat.le_of_ble_eq_true rfl) rfl ?_
          | refine store_ptr rfl rfl (by decide) rfl rfl (Nat.le_of_ble_eq_true rfl) rfl ?_
          | refine store_sp rfl rfl (by decide) rfl (by assumption) rfl (Nat.le_of_ble_eq_true rfl) rfl ?_
          | refine fad_ptr rfl rfl rfl ?_
          | refine fad_rp rfl (Nat.le_of_ble_eq_true rfl) rfl ?_
          | refine fad_sp rfl rfl rfl ?_
          | refine iaS_c rfl rfl (by omega) (by assumption) rfl ?_
          | refine iaS_osl rfl rfl rfl (by omega) rfl ?_
          | refine len_sl rfl (by first | assumption | exact List.length_map _) ?_
          | refine len_sl rfl rfl ?_
          | refine len_osl rfl rfl ?_
          | refine iaS_osl rfl rfl rfl (by first | omega | (simp; omega)) rfl ?_
          | refine len_osl rfl rfl ?_
          | refine w_rn_same rfl ?_
          | refine w_rn rfl (by decide) rfl rfl (fun _ _ => ?_)
          | refine app_own rfl rfl rfl rfl (by first | assumption | omega | (simp; omega)) (by first | (intro e he; cases List.mem_singleton.mp he; rfl) | assumption) rfl rfl (fun _ _ => ?_)
          | refine app_cl rfl rfl rfl rfl (by first | assumption | omega | (simp; omega)) (by first | (intro e he; cases List.mem_singleton.mp he; rfl) | assumption) rfl (fun u => ?_)
          | refine addu_ rfl rfl ?_
          | refine subu_ rfl rfl ?_
          | refine bin_ rfl rfl rfl ?_)
        exact ih (i + 1) (out ++ [(r.1, r.2)]) (q :: b') _ _ hn (by omega) (hzs r.2) (by simp; omega) hb ha1' hb1 (by rfl) (by rfl) (by rfl) (by rfl) (by rfl) (by rfl) hx hr

theorem C_Minus (a b : List Run) (ha : a.length < 400000000) (hb : b.length < 400000000) : PCallG Try.prog 24 [.c (encL a), .c (encL b)] (.c (.tup [encL (minus a b).1, .bool (minus a b).2])) [] := by
  refine pcallF Try.func24 c24 rfl ?_
  unfold p24 r24_0 r24_1 r24_2 r24_3 r24_4 r24_15 r24_16 r24_17
  have hA := C_good a (by omega)
  have hB := C_good b (by omega)
  cases ga : good a with
  | false =>
    rw [ga] at hA
    repeat' (first
      | refine call1 rfl hA ?_
      | refine w_seq ?_
      | refine w_ops ?_
      | refine st_nil ?_
      | refine th_n ?_
      | refine th_r ?_
      | refine bk_n ?_
      | refine bk_r ?_
      | refine bk_x ?_
      | refine bk_y (by decide) ?_
      | refine w_block ?_
      | refine w_skip ?_
      | refine w_ret ?_
      | refine w_true rfl ?_
      | refine w_false rfl ?_
      | refine w_condd rfl (fun hc => ?_) (fun hc => ?_)
      | refine w_cond rfl (fun hc => ?_) (fun hc => ?_)
      | refine g_yes rfl ?_
      | refine g_no rfl ?_
      | refine g_no' rfl ?_
      | refine g_un rfl ?_
      | refine g_un' rfl ?_
      | refine g_splitd rfl (fun hg => ?_) (fun hg => ?_)
      | refine g_split rfl (fun hg => ?_) (fun hg => ?_)
      | refine mv_c rfl ?_
      | refine mv_ptr rfl ?_
      | refine mv_rp rfl ?_
      | refine mv_osl rfl ?_
      | refine mv_sp rfl ?_
      | refine mv_undef rfl ?_
      | refine pick_t rfl rfl ?_
      | refine pick_f rfl rfl ?_
      | refine gtr_t rfl rfl (by omega) ?_
      | refine gtr_f rfl rfl (by omega) ?_
      | refine gtr_ rfl rfl ?_
      | refine notd_ rfl ?_
      | refine not_ rfl ?_
      | refine own0_ (fun u => ?_)
      | refine len_sl rfl (by first | assumption | exact List.length_map _) ?_
      | refine len_sl rfl rfl ?_
      | refine len_osl rfl rfl ?_
      | refine len_osl rfl rfl ?_
      | refine un_ rfl rfl ?_
      | refine bin_ rfl rfl rfl ?_)
    exact fin_r rfl (by simp [one_, minus, ga, encL])
  | true =>
    rw [ga] at hA
    obtain ⟨pa, sa⟩ := good_facts ga
    cases gb : good b with
    | false =>
      rw [gb] at hB
      repeat' (first
        | refine call1 rfl hA ?_
        | refine call1 rfl hB ?_
        | refine w_seq ?_
        | refine w_ops ?_
        | refine st_nil ?_
        | refine th_n ?_
        | refine th_r ?_
        | refine bk_n ?_
        | refine bk_r ?_
        | refine bk_x ?_
        | refine bk_y (by decide) ?_
        | refine w_block ?_
        | refine w_skip ?_
        | refine w_ret ?_
        | refine w_true rfl ?_
        | refine w_false rfl ?_
        | refine w_condd rfl (fun hc => ?_) (fun hc => ?_)
        | refine w_cond rfl (fun hc => ?_) (fun hc => ?_)
        | refine g_yes rfl ?_
        | refine g_no rfl ?_
        | refine g_no' rfl ?_
        | refine g_un rfl ?_
        | refine g_un' rfl ?_
        | refine g_splitd rfl (fun hg => ?_) (fun hg => ?_)
        | refine g_split rfl (fun hg => ?_) (fun hg => ?_)
        | refine mv_c rfl ?_
        | refine mv_ptr rfl ?_
        | refine mv_rp rfl ?_
        | refine mv_osl rfl ?_
        | refine mv_sp rfl ?_
        | refine mv_undef rfl ?_
        | refine pick_t rfl rfl ?_
        | refine pick_f rfl rfl ?_
        | refine gtr_t rfl rfl (by omega) ?_
        | refine gtr_f rfl rfl (by omega) ?_
        | refine gtr_ rfl rfl ?_
        | refine notd_ rfl ?_
        | refine not_ rfl ?_
        | refine own0_ (fun u => ?_)
        | refine len_sl rfl (by first | assumption | exact List.length_map _) ?_
        | refine len_sl rfl rfl ?_
        | refine len_osl rfl rfl ?_
        | refine len_osl rfl rfl ?_
        | refine un_ rfl rfl ?_
        | refine bin_ rfl rfl rfl ?_)
      exact fin_r rfl (by simp [one_, minus, gb, encL])
    | true =>
      rw [gb] at hB
      obtain ⟨pb, sb⟩ := good_facts gb
      have sa' : sum a ≤ 1099511627776 := sa
      have sb' : sum b ≤ 1099511627776 := sb
      repeat' (first
        | refine call1 rfl hA ?_
        | refine call1 rfl hB ?_
        | refine w_seq ?_
        | refine w_ops ?_
        | refine st_nil ?_
        | refine th_n ?_
        | refine th_r ?_
        | refine bk_n ?_
        | refine bk_r ?_
        | refine bk_x ?_
        | refine bk_y (by decide) ?_
        | refine w_block ?_
        | refine w_skip ?_
        | refine w_ret ?_
        | refine w_true rfl ?_
        | refine w_false rfl ?_
        | refine w_condd rfl (fun hc => ?_) (fun hc => ?_)
        | refine w_cond rfl (fun hc => ?_) (fun hc => ?_)
        | refine g_yes rfl ?_
        | refine g_no rfl ?_
        | refine g_no' rfl ?_
        | refine g_un rfl ?_
        | refine g_un' rfl ?_
        | refine g_splitd rfl (fun hg => ?_) (fun hg => ?_)
        | refine g_split rfl (fun hg => ?_) (fun hg => ?_)
        | refine mv_c rfl ?_
        | refine mv_ptr rfl ?_
        | refine mv_rp rfl ?_
        | refine mv_osl rfl ?_
        | refine mv_sp rfl ?_
        | refine mv_undef rfl ?_
        | refine pick_t rfl rfl ?_
        | refine pick_f rfl rfl ?_
        | refine gtr_t rfl rfl (by omega) ?_
        | refine gtr_f rfl rfl (by omega) ?_
        | refine gtr_ rfl rfl ?_
        | refine notd_ rfl ?_
        | refine not_ rfl ?_
        | refine own0_ (fun u => ?_)
        | refine len_sl rfl (by first | assumption | exact List.length_map _) ?_
        | refine len_sl rfl rfl ?_
        | refine len_osl rfl rfl ?_
        | refine len_osl rfl rfl ?_
        | refine un_ rfl rfl ?_
        | refine bin_ rfl rfl rfl ?_)
      refine minus_loop a ha a 0 [] b [] _ rfl (by omega) rfl (by simp; omega) hb (fun r hr => by have := le_sum pa r hr; omega) (fun r hr => by have := le_sum pb r hr; omega) (by rfl) (by rfl) (by rfl) (by rfl) (by rfl) (by rfl) ?_ ?_
      · intro s' o b' hm hb'l t1 t6 b6
        generalize (s'.bx 6).ver = v6 at t6 b6
        rw [← put_same t1, ← put_same t6, ← box_same b6]
        cases b' with
        | nil =>
          repeat' (first
            | refine len_sl (es := ([] : List Run).map encR) rfl rfl ?_
            | refine w_seq ?_
            | refine w_ops ?_
            | refine st_nil ?_
            | refine th_n ?_
            | refine th_r ?_
            | refine bk_n ?_
            | refine bk_r ?_
            | refine bk_x ?_
            | refine bk_y (by decide) ?_
            | refine w_block ?_
            | refine w_skip ?_
            | refine w_ret ?_
            | refine w_true rfl ?_
            | refine w_false rfl ?_
            | refine w_condd rfl (fun hc => ?_) (fun hc => ?_)
            | refine w_cond rfl (fun hc => ?_) (fun hc => ?_)
            | refine g_yes rfl ?_
            | refine g_no rfl ?_
            | refine g_no' rfl ?_
            | refine g_un rfl ?_
            | refine g_un' rfl ?_
            | refine g_splitd rfl (fun hg => ?_) (fun hg => ?_)
            | refine g_split rfl (fun hg => ?_) (fun hg => ?_)
            | refine mv_c rfl ?_
            | refine mv_ptr rfl ?_
            | refine mv_rp rfl ?_
            | refine mv_osl rfl ?_
            | refine mv_sp rfl ?_
            | refine mv_undef rfl ?_
            | refine pick_t rfl rfl ?_
            | refine pick_f rfl rfl ?_
            | refine gtr_t rfl rfl (by omega) ?_
            | refine gtr_f rfl rfl (by omega) ?_
            | refine gtr_ rfl rfl ?_
            | refine notd_ rfl ?_
            | refine not_ rfl ?_
            | refine own0_ (fun u => ?_)
            | refine len_sl rfl (by first | assumption | exact List.length_map _) ?_
            | refine len_sl rfl rfl ?_
            | refine len_osl rfl rfl ?_
            | refine len_osl rfl rfl ?_
            | refine un_ rfl rfl ?_
            | refine bin_ rfl rfl rfl ?_)
          refine fin_r (rv_own rfl rfl rfl (rv_t rfl rv_nil)) ?_
          simp [one_, minus, ga, gb, hm, encL, encE]
        | cons q b' =>
          have hp : 0 < (q :: b').length := by simp
          repeat' (first
            | refine w_seq ?_
            | refine w_ops ?_
            | refine st_nil ?_
            | refine th_n ?_
            | refine th_r ?_
            | refine bk_n ?_
            | refine bk_r ?_
            | refine bk_x ?_
            | refine bk_y (by decide) ?_
            | refine w_block ?_
            | refine w_skip ?_
            | refine w_ret ?_
            | refine w_true rfl ?_
            | refine w_false rfl ?_
            | refine w_condd rfl (fun hc => ?_) (fun hc => ?_)
            | refine w_cond rfl (fun hc => ?_) (fun hc => ?_)
            | refine g_yes rfl ?_
            | refine g_no rfl ?_
            | refine g_no' rfl ?_
            | refine g_un rfl ?_
            | refine g_un' rfl ?_
            | refine g_splitd rfl (fun hg => ?_) (fun hg => ?_)
            | refine g_split rfl (fun hg => ?_) (fun hg => ?_)
            | refine mv_c rfl ?_
            | refine mv_ptr rfl ?_
            | refine mv_rp rfl ?_
            | refine mv_osl rfl ?_
            | refine mv_sp rfl ?_
            | refine mv_undef rfl ?_
            | refine pick_t rfl rfl ?_
            | refine pick_f rfl rfl ?_
            | refine gtr_t rfl rfl (by omega) ?_
            | refine gtr_f rfl rfl (by omega) ?_
            | refine gtr_ rfl rfl ?_
            | refine notd_ rfl ?_
            | refine not_ rfl ?_
            | refine own0_ (fun u => ?_)
            | refine len_sl rfl (by first | assumption | exact List.length_map _) ?_
            | refine len_sl rfl rfl ?_
            | refine len_osl rfl rfl ?_
            | refine len_osl rfl rfl ?_
            | refine un_ rfl rfl ?_
            | refine bin_ rfl rfl rfl ?_)
          refine fin_r rfl ?_
          simp [one_, minus, hm, encL]
      · intro s' hm t4 t5
        rw [← put_same t4, ← put_same t5]
        repeat' (first
          | refine w_seq ?_
          | refine w_ops ?_
          | refine st_nil ?_
          | refine th_n ?_
          | refine th_r ?_
          | refine bk_n ?_
          | refine bk_r ?_
          | refine bk_x ?_
          | refine bk_y (by decide) ?_
          | refine w_block ?_
          | refine w_skip ?_
          | refine w_ret ?_
          | refine w_true rfl ?_
          | refine w_false rfl ?_
          | refine w_condd rfl (fun hc => ?_) (fun hc => ?_)
          | refine w_cond rfl (fun hc => ?_) (fun hc => ?_)
          | refine g_yes rfl ?_
          | refine g_no rfl ?_
          | refine g_no' rfl ?_
          | refine g_un rfl ?_
          | refine g_un' rfl ?_
          | refine g_splitd rfl (fun hg => ?_) (fun hg => ?_)
          | refine g_split rfl (fun hg => ?_) (fun hg => ?_)
          | refine mv_c rfl ?_
          | refine mv_ptr rfl ?_
          | refine mv_rp rfl ?_
          | refine mv_osl rfl ?_
          | refine mv_sp rfl ?_
          | refine mv_undef rfl ?_
          | refine pick_t rfl rfl ?_
          | refine pick_f rfl rfl ?_
          | refine gtr_t rfl rfl (by omega) ?_
          | refine gtr_f rfl rfl (by omega) ?_
          | refine gtr_ rfl rfl ?_
          | refine notd_ rfl ?_
          | refine not_ rfl ?_
          | refine own0_ (fun u => ?_)
          | refine len_sl rfl (by first | assumption | exact List.length_map _) ?_
          | refine len_sl rfl rfl ?_
          | refine len_osl rfl rfl ?_
          | refine len_osl rfl rfl ?_
          | refine un_ rfl rfl ?_
          | refine bin_ rfl rfl rfl ?_)
        refine fin_r rfl ?_
        simp [one_, minus, hm, encL]
end Go.Proofs.Ytcmejdkjfekoeaa

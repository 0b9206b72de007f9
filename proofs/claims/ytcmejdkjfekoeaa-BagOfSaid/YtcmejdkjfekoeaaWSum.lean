import Derived.Test.YtcmejdkjfekoeaaWPart
import Derived.Test.YtcmejdkjfekoeaaMBag2
namespace Go.Proofs.Ytcmejdkjfekoeaa
open Go.Pl Go.Bag
set_option maxHeartbeats 4000000

def sumB (l : List Run) : Int × Bool := if good l = true ∧ I64 (wsum l) then (wsum l, true) else (0, false)
def tupI (p : Int × Bool) : CV := .tup [.int .i64 p.1, .bool p.2]

theorem C_Sum (l : List Run) (hlen : l.length < 4611686018427387904) (hr : ranged l) : PCallG Try.prog 31 [.c (encL l)] (.c (tupI (sumB l))) [] := by
  refine pcallF Try.func31 c31 rfl ?_
  unfold p31 r31_0 r31_1 r31_2 r31_3
  have hC := C_good l hlen
  cases hg : good l with
  | false =>
    rw [hg] at hC
    repeat' (first
      | refine call1 rfl hC ?_
      | refine w_seq ?_
      | refine w_ops ?_
      | refine st_nil ?_
      | refine th_n ?_
      | refine th_r ?_
      | refine w_skip ?_
      | refine w_ret ?_
      | refine w_true rfl ?_
      | refine w_false rfl ?_
      | refine w_condd rfl (fun hc => ?_) (fun hc => ?_)
      | refine w_cond rfl (fun hc => ?_) (fun hc => ?_)
      | refine mv_c rfl ?_
      | refine mv_ptr rfl ?_
      | refine mv_rp rfl ?_
      | refine mv_osl rfl ?_
      | refine mv_sp rfl ?_
      | refine mv_undef rfl ?_
      | refine notd_ rfl ?_
      | refine not_ rfl ?_
      | refine ext_ rfl rfl ?_
      | refine un_ rfl rfl ?_)
    exact fin_r rfl (by simp [one_, tupI, sumB, hg])
  | true =>
    rw [hg] at hC
    obtain ⟨hp, hs⟩ := good_facts hg
    have hs' : sum l ≤ 1099511627776 := hs
    have hn := sum_nonneg hp
    have hb := wsum_bound hp hr
    have hP := C_Part l [] hlen (by simp) hp hr hs' (fun q hq => by simp at hq) (fun q hq => by simp at hq) (by simp [sum])
    have e : wsum l - wsum [] = wsum l := by simp [wsum]
    rw [e] at hP
    have hI := C_Int (wsum l) (by constructor <;> omega)
    by_cases h : I64 (wsum l)
    · rw [if_pos h] at hI
      repeat' (first
        | refine call1 rfl hC ?_
        | refine call2 rfl rfl hP ?_
        | refine call1 rfl hI ?_
        | refine w_seq ?_
        | refine w_ops ?_
        | refine st_nil ?_
        | refine th_n ?_
        | refine th_r ?_
        | refine w_skip ?_
        | refine w_ret ?_
        | refine w_true rfl ?_
        | refine w_false rfl ?_
        | refine w_condd rfl (fun hc => ?_) (fun hc => ?_)
        | refine w_cond rfl (fun hc => ?_) (fun hc => ?_)
        | refine mv_c rfl ?_
        | refine mv_ptr rfl ?_
        | refine mv_rp rfl ?_
        | refine mv_osl rfl ?_
        | refine mv_sp rfl ?_
        | refine mv_undef rfl ?_
        | refine notd_ rfl ?_
        | refine not_ rfl ?_
        | refine ext_ rfl rfl ?_
        | refine un_ rfl rfl ?_)
      exact fin_r rfl (by simp [one_, tupI, sumB, hg, h])
    · rw [if_neg h] at hI
      repeat' (first
        | refine call1 rfl hC ?_
        | refine call2 rfl rfl hP ?_
        | refine call1 rfl hI ?_
        | refine w_seq ?_
        | refine w_ops ?_
        | refine st_nil ?_
        | refine th_n ?_
        | refine th_r ?_
        | refine w_skip ?_
        | refine w_ret ?_
        | refine w_true rfl ?_
        | refine w_false rfl ?_
        | refine w_condd rfl (fun hc => ?_) (fun hc => ?_)
        | refine w_cond rfl (fun hc => ?_) (fun hc => ?_)
        | refine mv_c rfl ?_
        | refine mv_ptr rfl ?_
        | refine mv_rp rfl ?_
        | refine mv_osl rfl ?_
        | refine mv_sp rfl ?_
        | refine mv_undef rfl ?_
        | refine notd_ rfl ?_
        | refine not_ rfl ?_
        | refine ext_ rfl rfl ?_
        | refine un_ rfl rfl ?_)
      exact fin_r rfl (by simp [one_, tupI, sumB, h])

theorem equal_loop {C : CallP} {K : Ex → PS → Prop} (l k : List Run) (hlen : l.length < 4611686018427387904) (hk : k.length = l.length) : ∀ (rest rest' : List Run) (i : Nat) (s : PS), l.drop i = rest → k.drop i = rest' → i ≤ l.length →
    s.t 0 = .c (encL l) → s.t 1 = .c (encL k) → s.t 12 = .c (.int .i64 l.length) → s.t 13 = .c (.int .i64 i) →
    (rest = rest' → ∀ s', K (.x 0) s') → (rest ≠ rest' → ∀ s', s'.t 4 = .c (.bool false) → K .r s') → wP C (.loop b87_0) s K := by
  intro rest
  induction rest with
  | nil =>
    intro rest' i s hd hd' hi t0 t1 t12 t13 hx hr
    refine w_loop ?_
    have := get_end hd hi
    subst this
    have h' : rest' = [] := by rw [← hd', ← hk]; simp
    subst h'
    rw [← put_same t12, ← put_same t13]
    unfold b87_0 r87_4 r87_5 r87_6 r87_7 r87_8
    repeat' (first
      | refine w_seq ?_
      | refine w_ops ?_
      | refine w_opsD0 rfl ?_
      | refine w_opsD1 rfl (fun u => ?_)
      | refine w_opsD2 rfl (fun u u => ?_)
      | refine w_opsD3 rfl (fun u u u => ?_)
      | refine w_opsD4 rfl (fun u u u u => ?_)
      | refine st_nil ?_
      | refine th_n ?_
      | refine th_x ?_
      | refine th_r ?_
      | refine bk_n ?_
      | refine bk_r ?_
      | refine bk_x ?_
      | refine bk_y (by decide) ?_
      | refine w_block ?_
      | refine w_skip ?_
      | refine w_exit ?_
      | refine w_ret ?_
      | refine w_true rfl ?_
      | refine w_false rfl ?_
      | refine w_condd rfl (fun hc => ?_) (fun hc => ?_)
      | refine w_cond rfl (fun hc => ?_) (fun hc => ?_)
      | refine mv_c rfl ?_
      | refine mv_ptr rfl ?_
      | refine mv_rp rfl ?_
      | refine mv_osl rfl ?_
      | refine mv_sp rfl ?_
      | refine mv_undef rfl ?_
      | refine lss_t rfl rfl (by omega) ?_
      | refine lss_f rfl rfl (by omega) ?_
      | refine lss_ rfl rfl ?_
      | refine eqlB_ rfl rfl ?_
      | refine neqB_ rfl rfl ?_
      | refine addu_in rfl rfl (by omega) ?_
      | refine add_in rfl rfl (by omega) ?_
      | refine load_rp rfl (Nat.le_of_ble_eq_true rfl) rfl ?_
      | refine load_ptr rfl (by decide) rfl (Nat.le_of_ble_eq_true rfl) rfl ?_
      | refine load_sp rfl (by decide) rfl (by assumption) (Nat.le_of_ble_eq_true rfl) rfl ?_
      | refine iaS_c rfl rfl (by omega) (by assumption) rfl ?_
      | refine iaS_osl rfl rfl rfl (by omega) rfl ?_
      | refine iaS_osl rfl rfl rfl (by first | omega | (simp; omega)) rfl ?_
      | refine eqs_t rfl rfl rfl ?_
      | refine eqs_f rfl rfl rfl ?_
      | refine addu_ rfl rfl ?_
      | refine bin_ rfl rfl rfl ?_)
    exact hx rfl _
  | cons r rest ih =>
    intro rest' i s hd hd' hi t0 t1 t12 t13 hx hr
    refine w_loop ?_
    have he := get_enc hd
    have hl := get_len hd
    have hn := get_next hd
    match rest', hd' with
    | [], hd' => exact absurd (List.drop_eq_nil_iff.mp hd') (by omega)
    | q :: rest', hd' =>
      have he' := get_enc hd'
      have hn' := get_next hd'
      rw [← put_same t0, ← put_same t1, ← put_same t12, ← put_same t13]
      unfold b87_0 r87_4 r87_5 r87_6 r87_7 r87_8
      have hq : eqC true [.i, .i] (.agg (encR r)) (.agg (encR q)) = some (decide (r = q)) := by
        obtain ⟨r1, r2⟩ := r
        obtain ⟨q1, q2⟩ := q
        by_cases h1 : r1 = q1 <;> by_cases h2 : r2 = q2 <;> simp [eqC, shEq, encR, h1, h2]
      by_cases hrq : r = q
      · rw [decide_eq_true hrq] at hq
        repeat' (first
          | refine eqs_f rfl rfl hq ?_
          | refine w_seq ?_
          | refine w_ops ?_
          | refine w_opsD0 rfl ?_
          | refine w_opsD1 rfl (fun u => ?_)
          | refine w_opsD2 rfl (fun u u => ?_)
          | refine w_opsD3 rfl (fun u u u => ?_)
          | refine w_opsD4 rfl (fun u u u u => ?_)
          | refine st_nil ?_
          | refine th_n ?_
          | refine th_x ?_
          | refine th_r ?_
          | refine bk_n ?_
          | refine bk_r ?_
          | refine bk_x ?_
          | refine bk_y (by decide) ?_
          | refine w_block ?_
          | refine w_skip ?_
          | refine w_exit ?_
          | refine w_ret ?_
          | refine w_true rfl ?_
          | refine w_false rfl ?_
          | refine w_condd rfl (fun hc => ?_) (fun hc => ?_)
          | refine w_cond rfl (fun hc => ?_) (fun hc => ?_)
          | refine mv_c rfl ?_
          | refine mv_ptr rfl ?_
          | refine mv_rp rfl ?_
          | refine mv_osl rfl ?_
          | refine mv_sp rfl ?_
          | refine mv_undef rfl ?_
          | refine lss_t rfl rfl (by omega) ?_
          | refine lss_f rfl rfl (by omega) ?_
          | refine lss_ rfl rfl ?_
          | refine eqlB_ rfl rfl ?_
          | refine neqB_ rfl rfl ?_
          | refine addu_in rfl rfl (by omega) ?_
          | refine add_in rfl rfl (by omega) ?_
          | refine load_rp rfl (Nat.le_of_ble_eq_true rfl) rfl ?_
          | refine load_ptr rfl (by decide) rfl (Nat.le_of_ble_eq_true rfl) rfl ?_
          | refine load_sp rfl (by decide) rfl (by assumption) (Nat.le_of_ble_eq_true rfl) rfl ?_
          | refine iaS_c rfl rfl (by omega) (by assumption) rfl ?_
          | refine iaS_osl rfl rfl rfl (by omega) rfl ?_
          | refine iaS_osl rfl rfl rfl (by first | omega | (simp; omega)) rfl ?_
          | refine eqs_t rfl rfl rfl ?_
          | refine eqs_f rfl rfl rfl ?_
          | refine addu_ rfl rfl ?_
          | refine bin_ rfl rfl rfl ?_)
        exact ih rest' (i + 1) _ hn hn' (by omega) (by rfl) (by rfl) (by rfl) (by rfl) (fun h => hx (by rw [hrq, h])) (fun h => hr (fun e => h (by injection e)))
      · rw [decide_eq_false hrq] at hq
        repeat' (first
          | refine eqs_f rfl rfl hq ?_
          | refine w_seq ?_
          | refine w_ops ?_
          | refine w_opsD0 rfl ?_
          | refine w_opsD1 rfl (fun u => ?_)
          | refine w_opsD2 rfl (fun u u => ?_)
          | refine w_opsD3 rfl (fun u u u => ?_)
          | refine w_opsD4 rfl (fun u u u u => ?_)
          | refine st_nil ?_
          | refine th_n ?_
          | refine th_x ?_
          | refine th_r ?_
          | refine bk_n ?_
          | refine bk_r ?_
          | refine bk_x ?_
          | refine bk_y (by decide) ?_
          | refine w_block ?_
          | refine w_skip ?_
          | refine w_exit ?_
          | refine w_ret ?_
          | refine w_true rfl ?_
          | refine w_false rfl ?_
          | refine w_condd rfl (fun hc => ?_) (fun hc => ?_)
          | refine w_cond rfl (fun hc => ?_) (fun hc => ?_)
          | refine mv_c rfl ?_
          | refine mv_ptr rfl ?_
          | refine mv_rp rfl ?_
          | refine mv_osl rfl ?_
          | refine mv_sp rfl ?_
          | refine mv_undef rfl ?_
          | refine lss_t rfl rfl (by omega) ?_
          | refine lss_f rfl rfl (by omega) ?_
          | refine lss_ rfl rfl ?_
          | refine eqlB_ rfl rfl ?_
          | refine neqB_ rfl rfl ?_
          | refine addu_in rfl rfl (by omega) ?_
          | refine add_in rfl rfl (by omega) ?_
          | refine load_rp rfl (Nat.le_of_ble_eq_true rfl) rfl ?_
          | refine load_ptr rfl (by decide) rfl (Nat.le_of_ble_eq_true rfl) rfl ?_
          | refine load_sp rfl (by decide) rfl (by assumption) (Nat.le_of_ble_eq_true rfl) rfl ?_
          | refine iaS_c rfl rfl (by omega) (by assumption) rfl ?_
          | refine iaS_osl rfl rfl rfl (by omega) rfl ?_
          | refine iaS_osl rfl rfl rfl (by first | omega | (simp; omega)) rfl ?_
          | refine eqs_t rfl rfl rfl ?_
          | refine eqs_f rfl rfl rfl ?_
          | refine addu_ rfl rfl ?_
          | refine bin_ rfl rfl rfl ?_)
        exact hr (fun e => hrq (by injection e)) _ rfl

theorem C_Equal (l k : List Run) (hlen : l.length < 4611686018427387904) (hklen : k.length < 4611686018427387904) : PCallG Try.prog 87 [.c (encL l), .c (encL k)] (.c (.bool (decide (l = k)))) [] := by
  refine pcallF Try.func87 c87 rfl ?_
  unfold p87 r87_0 r87_1 r87_2 r87_3 r87_9
  by_cases hk : k.length = l.length
  · repeat' (first
    | refine w_seq ?_
    | refine w_ops ?_
    | refine st_nil ?_
    | refine th_n ?_
    | refine th_r ?_
    | refine bk_n ?_
    | refine bk_r ?_
    | refine bk_x ?_
    | refine bk_y (by decide) ?_
    | refine w_block ?_
    | refine w_skip ?_
    | refine w_ret ?_
    | refine w_true rfl ?_
    | refine w_false rfl ?_
    | refine w_condd rfl (fun hc => ?_) (fun hc => ?_)
    | refine w_cond rfl (fun hc => ?_) (fun hc => ?_)
    | refine mv_c rfl ?_
    | refine mv_ptr rfl ?_
    | refine mv_rp rfl ?_
    | refine mv_osl rfl ?_
    | refine mv_sp rfl ?_
    | refine mv_undef rfl ?_
    | refine neq_t rfl rfl (by omega) ?_
    | refine neq_f rfl rfl (by omega) ?_
    | refine ned_ rfl rfl ?_
    | refine len_sl rfl (by first | assumption | exact List.length_map _) ?_
    | refine len_sl rfl rfl ?_
    | refine len_osl rfl rfl ?_
    | refine len_osl rfl rfl ?_
    | refine bin_ rfl rfl rfl ?_)
    refine equal_loop l k hlen hk l k 0 _ rfl rfl (by omega) (by rfl) (by rfl) (by rfl) (by rfl) (fun h s' => ?_) (fun h s' h4 => ?_)
    · repeat' (first
      | refine w_seq ?_
      | refine w_ops ?_
      | refine st_nil ?_
      | refine th_n ?_
      | refine th_r ?_
      | refine bk_n ?_
      | refine bk_r ?_
      | refine bk_x ?_
      | refine bk_y (by decide) ?_
      | refine w_block ?_
      | refine w_skip ?_
      | refine w_ret ?_
      | refine w_true rfl ?_
      | refine w_false rfl ?_
      | refine w_condd rfl (fun hc => ?_) (fun hc => ?_)
      | refine w_cond rfl (fun hc => ?_) (fun hc => ?_)
      | refine mv_c rfl ?_
      | refine mv_ptr rfl ?_
      | refine mv_rp rfl ?_
      | refine mv_osl rfl ?_
      | refine mv_sp rfl ?_
      | refine mv_undef rfl ?_
      | refine neq_t rfl rfl (by omega) ?_
      | refine neq_f rfl rfl (by omega) ?_
      | refine ned_ rfl rfl ?_
      | refine len_sl rfl (by first | assumption | exact List.length_map _) ?_
      | refine len_sl rfl rfl ?_
      | refine len_osl rfl rfl ?_
      | refine len_osl rfl rfl ?_
      | refine bin_ rfl rfl rfl ?_)
      exact fin_r rfl (by simp [one_, h])
    · rw [← put_same h4]
      repeat' (first
        | refine w_seq ?_
        | refine w_ops ?_
        | refine st_nil ?_
        | refine th_n ?_
        | refine th_r ?_
        | refine bk_n ?_
        | refine bk_r ?_
        | refine bk_x ?_
        | refine bk_y (by decide) ?_
        | refine w_block ?_
        | refine w_skip ?_
        | refine w_ret ?_
        | refine w_true rfl ?_
        | refine w_false rfl ?_
        | refine w_condd rfl (fun hc => ?_) (fun hc => ?_)
        | refine w_cond rfl (fun hc => ?_) (fun hc => ?_)
        | refine mv_c rfl ?_
        | refine mv_ptr rfl ?_
        | refine mv_rp rfl ?_
        | refine mv_osl rfl ?_
        | refine mv_sp rfl ?_
        | refine mv_undef rfl ?_
        | refine neq_t rfl rfl (by omega) ?_
        | refine neq_f rfl rfl (by omega) ?_
        | refine ned_ rfl rfl ?_
        | refine len_sl rfl (by first | assumption | exact List.length_map _) ?_
        | refine len_sl rfl rfl ?_
        | refine len_osl rfl rfl ?_
        | refine len_osl rfl rfl ?_
        | refine bin_ rfl rfl rfl ?_)
      exact fin_r rfl (by simp [one_, h])
  · repeat' (first
    | refine w_seq ?_
    | refine w_ops ?_
    | refine st_nil ?_
    | refine th_n ?_
    | refine th_r ?_
    | refine bk_n ?_
    | refine bk_r ?_
    | refine bk_x ?_
    | refine bk_y (by decide) ?_
    | refine w_block ?_
    | refine w_skip ?_
    | refine w_ret ?_
    | refine w_true rfl ?_
    | refine w_false rfl ?_
    | refine w_condd rfl (fun hc => ?_) (fun hc => ?_)
    | refine w_cond rfl (fun hc => ?_) (fun hc => ?_)
    | refine mv_c rfl ?_
    | refine mv_ptr rfl ?_
    | refine mv_rp rfl ?_
    | refine mv_osl rfl ?_
    | refine mv_sp rfl ?_
    | refine mv_undef rfl ?_
    | refine neq_t rfl rfl (by omega) ?_
    | refine neq_f rfl rfl (by omega) ?_
    | refine ned_ rfl rfl ?_
    | refine len_sl rfl (by first | assumption | exact List.length_map _) ?_
    | refine len_sl rfl rfl ?_
    | refine len_osl rfl rfl ?_
    | refine len_osl rfl rfl ?_
    | refine bin_ rfl rfl rfl ?_)
    refine fin_r rfl ?_
    have : l ≠ k := fun e => hk (by rw [e])
    simp [one_, this]

theorem C_Same (l k : List Run) (hlen : l.length < 4611686018427387904) (hklen : k.length < 4611686018427387904) : PCallG Try.prog 29 [.c (encL l), .c (encL k)] (.c (.bool (decide (l = k)))) [] := by
  refine pcallF Try.func29 c29 rfl ?_
  unfold p29 r29_0 r29_1
  repeat' (first
    | refine call2 rfl rfl (C_Equal l k hlen hklen) ?_
    | refine w_seq ?_
    | refine w_ops ?_
    | refine st_nil ?_
    | refine th_n ?_
    | refine th_r ?_
    | refine w_ret ?_
    | refine mv_c rfl ?_
    | refine mv_ptr rfl ?_
    | refine mv_rp rfl ?_
    | refine mv_osl rfl ?_
    | refine mv_sp rfl ?_
    | refine mv_undef rfl ?_)
  exact fin_r rfl (by simp [one_])
end Go.Proofs.Ytcmejdkjfekoeaa

import Derived.Test.YtcmejdkjfekoeaaWBag1
import Derived.Test.YtcmejdkjfekoeaaWCalc
namespace Go.Proofs.Ytcmejdkjfekoeaa
open Go.Pl Go.Bag
set_option maxHeartbeats 4000000

theorem part_loop {K : Ex → PS → Prop} (l o : List Run) (hlen : l.length < 4611686018427387904) (v4 v5 : Nat) (c4 : List CV) : ∀ (rest : List Run) (i : Nat) (z : Int) (s : PS), l.drop i = rest → i ≤ l.length → pos rest → ranged rest →
    -(9223372036854775808 * (2199023255552 - sum rest)) ≤ z → z ≤ 9223372036854775808 * (2199023255552 - sum rest) → sum rest ≤ 2199023255552 →
    s.t 10 = .c (encL l) → s.t 11 = .c (.int .i64 l.length) → s.t 12 = .c (.int .i64 i) → s.t 1 = .c (encL o) → s.t 4 = .ptr 4 v4 0 → s.bx 4 = ⟨v4, .var c4⟩ → s.t 5 = .ptr 5 v5 0 → s.bx 5 = ⟨v5, .var (cellsW z)⟩ →
    (∀ s', s'.t 1 = .c (encL o) → s'.t 4 = .ptr 4 v4 0 → s'.bx 4 = ⟨v4, .var c4⟩ → s'.t 5 = .ptr 5 v5 0 → s'.bx 5 = ⟨v5, .var (cellsW (z + wsum rest))⟩ → K (.x 0) s') → wP (PCallG Try.prog) (.loop b88_0) s K := by
  intro rest
  induction rest with
  | nil =>
    intro i z s hd hi hp hr h0 h1 h2 t10 t11 t12 t1 t4 b4 t5 b5 hx
    refine w_loop ?_
    have := get_end hd hi
    subst this
    rw [← put_same t11, ← put_same t12, ← put_same t1, ← put_same t4, ← put_same t5, ← box_same b4, ← box_same b5]
    unfold b88_0 r88_3 r88_4 r88_5 r88_6
    repeat' (first
      | refine w_seq ?_
      | refine w_ops ?_
      | refine st_nil ?_
      | refine th_n ?_
      | refine th_x ?_
      | refine th_r ?_
      | refine bk_n ?_
      | refine bk_r ?_
      | refine bk_x ?_
      | refine bk_y (by decide) ?_
      | refine w_block ?_
      | refine w_skip ?_
      | refine w_exit ?_
      | refine w_true rfl ?_
      | refine w_false rfl ?_
      | refine w_condd rfl (fun hc => ?_) (fun hc => ?_)
      | refine w_cond rfl (fun hc => ?_) (fun hc => ?_)
      | refine mv_c rfl ?_
      | refine mv_ptr rfl ?_
      | refine mv_rp rfl ?_
      | refine mv_osl rfl ?_
      | refine mv_sp rfl ?_
      | refine mv_undef rfl ?_
      | refine lss_t rfl rfl (by omega) ?_
      | refine lss_f rfl rfl (by omega) ?_
      | refine lss_ rfl rfl ?_
      | refine addu_in rfl rfl (by omega) ?_
      | refine add_in rfl rfl (by omega) ?_
      | refine alloc_ (fun u => ?_)
      | refine load_rp rfl (Nat.le_of_ble_eq_true rfl) rfl ?_
      | refine load_ptr rfl (by decide) rfl (Nat.le_of_ble_eq_true rfl) rfl ?_
      | refine load_sp rfl (by decide) rfl (by assumption) (Nat.le_of_ble_eq_true rfl) rfl ?_
      | refine store_ptr rfl rfl (by decide) rfl rfl (Nat.le_of_ble_eq_true rfl) rfl ?_
      | refine store_sp rfl rfl (by decide) rfl (by assumption) rfl (Nat.le_of_ble_eq_true rfl) rfl ?_
      | refine fad_ptr rfl rfl rfl ?_
      | refine fad_rp rfl (Nat.le_of_ble_eq_true rfl) rfl ?_
      | refine fad_sp rfl rfl rfl ?_
      | refine iaS_c rfl rfl (by omega) (by assumption) rfl ?_
      | refine iaS_osl rfl rfl rfl (by omega) rfl ?_
      | refine iaS_osl rfl rfl rfl (by first | omega | (simp; omega)) rfl ?_
      | refine addu_ rfl rfl ?_
      | refine bin_ rfl rfl rfl ?_)
    exact hx _ rfl rfl rfl rfl (by simp only [wsum, Int.add_zero]; rfl)
  | cons r rest ih =>
    intro i z s hd hi hp hr h0 h1 h2 t10 t11 t12 t1 t4 b4 t5 b5 hx
    refine w_loop ?_
    have he := get_enc hd
    have hl := get_len hd
    have hn := get_next hd
    have hr1 := hp r (by simp)
    have hp' : pos rest := fun q hq => hp q (by simp [hq])
    have hr' : ranged rest := fun q hq => hr q (by simp [hq])
    have hs := sum_nonneg hp'
    have hrr := hr r (by simp)
    have hm := mul_bound hrr.1 (show 0 ≤ r.2 by omega)
    have e : z + wsum (r :: rest) = z + r.1 * r.2 + wsum rest := by simp only [wsum]; omega
    have es : sum (r :: rest) = r.2 + sum rest := rfl
    rw [e] at hx
    rw [es] at h0 h1 h2
    have hP := C_Plus z r.1 r.2 (by constructor <;> omega) hrr.1 hrr.2 (by constructor <;> omega)
    rw [← put_same t10, ← put_same t11, ← put_same t12, ← put_same t1, ← put_same t4, ← put_same t5, ← box_same b4, ← box_same b5]
    unfold b88_0 r88_3 r88_4 r88_5 r88_6
    repeat' (first
      | refine call3 rfl rfl rfl hP ?_
      | refine w_seq ?_
      | refine w_ops ?_
      | refine st_nil ?_
      | refine th_n ?_
      | refine th_x ?_
      | refine th_r ?_
      | refine bk_n ?_
      | refine bk_r ?_
      | refine bk_x ?_
      | refine bk_y (by decide) ?_
      | refine w_block ?_
      | refine w_skip ?_
      | refine w_exit ?_
      | refine w_true rfl ?_
      | refine w_false rfl ?_
      | refine w_condd rfl (fun hc => ?_) (fun hc => ?_)
      | refine w_cond rfl (fun hc => ?_) (fun hc => ?_)
      | refine mv_c rfl ?_
      | refine mv_ptr rfl ?_
      | refine mv_rp rfl ?_
      | refine mv_osl rfl ?_
      | refine mv_sp rfl ?_
      | refine mv_undef rfl ?_
      | refine lss_t rfl rfl (by omega) ?_
      | refine lss_f rfl rfl (by omega) ?_
      | refine lss_ rfl rfl ?_
      | refine addu_in rfl rfl (by omega) ?_
      | refine add_in rfl rfl (by omega) ?_
      | refine alloc_ (fun u => ?_)
      | refine load_rp rfl (Nat.le_of_ble_eq_true rfl) rfl ?_
      | refine load_ptr rfl (by decide) rfl (Nat.le_of_ble_eq_true rfl) rfl ?_
      | refine load_sp rfl (by decide) rfl (by assumption) (Nat.le_of_ble_eq_true rfl) rfl ?_
      | refine store_ptr rfl rfl (by decide) rfl rfl (Nat.le_of_ble_eq_true rfl) rfl ?_
      | refine store_sp rfl rfl (by decide) rfl (by assumption) rfl (Nat.le_of_ble_eq_true rfl) rfl ?_
      | refine fad_ptr rfl rfl rfl ?_
      | refine fad_rp rfl (Nat.le_of_ble_eq_true rfl) rfl ?_
      | refine fad_sp rfl rfl rfl ?_
      | refine iaS_c rfl rfl (by omega) (by assumption) rfl ?_
      | refine iaS_osl rfl rfl rfl (by omega) rfl ?_
      | refine iaS_osl rfl rfl rfl (by first | omega | (simp; omega)) rfl ?_
      | refine addu_ rfl rfl ?_
      | refine bin_ rfl rfl rfl ?_)
    exact ih (i + 1) (z + r.1 * r.2) _ hn (by omega) hp' hr' (by omega) (by omega) (by omega) rfl rfl rfl rfl rfl rfl rfl rfl hx

theorem part_loop2 {K : Ex → PS → Prop} (l : List Run) (hlen : l.length < 4611686018427387904) (v4 v5 : Nat) (c4 : List CV) : ∀ (rest : List Run) (i : Nat) (z : Int) (s : PS), l.drop i = rest → i ≤ l.length → pos rest → ranged rest →
    -(9223372036854775808 * (4398046511104 - sum rest)) ≤ z → z ≤ 9223372036854775808 * (4398046511104 - sum rest) → sum rest ≤ 4398046511104 →
    s.t 23 = .c (encL l) → s.t 24 = .c (.int .i64 l.length) → s.t 25 = .c (.int .i64 i) → s.t 4 = .ptr 4 v4 0 → s.bx 4 = ⟨v4, .var c4⟩ → s.t 5 = .ptr 5 v5 0 → s.bx 5 = ⟨v5, .var (cellsW z)⟩ →
    (∀ s', s'.t 4 = .ptr 4 v4 0 → s'.bx 4 = ⟨v4, .var c4⟩ → s'.t 5 = .ptr 5 v5 0 → s'.bx 5 = ⟨v5, .var (cellsW (z - wsum rest))⟩ → K (.x 2) s') → wP (PCallG Try.prog) (.loop b88_1) s K := by
  intro rest
  induction rest with
  | nil =>
    intro i z s hd hi hp hr h0 h1 h2 t10 t11 t12 t4 b4 t5 b5 hx
    refine w_loop ?_
    have := get_end hd hi
    subst this
    rw [← put_same t11, ← put_same t12, ← put_same t4, ← put_same t5, ← box_same b4, ← box_same b5]
    unfold b88_1 r88_8 r88_9 r88_10 r88_11
    repeat' (first
      | refine w_seq ?_
      | refine w_ops ?_
      | refine st_nil ?_
      | refine th_n ?_
      | refine th_x ?_
      | refine th_r ?_
      | refine bk_n ?_
      | refine bk_r ?_
      | refine bk_x ?_
      | refine bk_y (by decide) ?_
      | refine w_block ?_
      | refine w_skip ?_
      | refine w_exit ?_
      | refine w_true rfl ?_
      | refine w_false rfl ?_
      | refine w_condd rfl (fun hc => ?_) (fun hc => ?_)
      | refine w_cond rfl (fun hc => ?_) (fun hc => ?_)
      | refine mv_c rfl ?_
      | refine mv_ptr rfl ?_
      | refine mv_rp rfl ?_
      | refine mv_osl rfl ?_
      | refine mv_sp rfl ?_
      | refine mv_undef rfl ?_
      | refine lss_t rfl rfl (by omega) ?_
      | refine lss_f rfl rfl (by omega) ?_
      | refine lss_ rfl rfl ?_
      | refine addu_in rfl rfl (by omega) ?_
      | refine neg_in rfl (by omega) ?_
      | refine negu_ rfl ?_
      | refine add_in rfl rfl (by omega) ?_
      | refine alloc_ (fun u => ?_)
      | refine load_rp rfl (Nat.le_of_ble_eq_true rfl) rfl ?_
      | refine load_ptr rfl (by decide) rfl (Nat.le_of_ble_eq_true rfl) rfl ?_
      | refine load_sp rfl (by decide) rfl (by assumption) (Nat.le_of_ble_eq_true rfl) rfl ?_
      | refine store_ptr rfl rfl (by decide) rfl rfl (Nat.le_of_ble_eq_true rfl) rfl ?_
      | refine store_sp rfl rfl (by decide) rfl (by assumption) rfl (Nat.le_of_ble_eq_true rfl) rfl ?_
      | refine fad_ptr rfl rfl rfl ?_
      | refine fad_rp rfl (Nat.le_of_ble_eq_true rfl) rfl ?_
      | refine fad_sp rfl rfl rfl ?_
      | refine iaS_c rfl rfl (by omega) (by assumption) rfl ?_
      | refine iaS_osl rfl rfl rfl (by omega) rfl ?_
      | refine iaS_osl rfl rfl rfl (by first | omega | (simp; omega)) rfl ?_
      | refine un_ rfl rfl ?_
      | refine addu_ rfl rfl ?_
      | refine bin_ rfl rfl rfl ?_)
    exact hx _ rfl rfl rfl (by simp only [wsum, Int.sub_zero]; rfl)
  | cons r rest ih =>
    intro i z s hd hi hp hr h0 h1 h2 t10 t11 t12 t4 b4 t5 b5 hx
    refine w_loop ?_
    have he := get_enc hd
    have hl := get_len hd
    have hn := get_next hd
    have hr1 := hp r (by simp)
    have hp' : pos rest := fun q hq => hp q (by simp [hq])
    have hr' : ranged rest := fun q hq => hr q (by simp [hq])
    have hs := sum_nonneg hp'
    have hrr := hr r (by simp)
    have hm := mul_bound hrr.1 (show 0 ≤ r.2 by omega)
    have e : z - wsum (r :: rest) = z + r.1 * -r.2 - wsum rest := by simp only [wsum, Int.mul_neg]; omega
    have es : sum (r :: rest) = r.2 + sum rest := rfl
    rw [e] at hx
    rw [es] at h0 h1 h2
    have hmn : r.1 * -r.2 = -(r.1 * r.2) := Int.mul_neg _ _
    have hP := C_Plus z r.1 (-r.2) (by constructor <;> omega) hrr.1 (by constructor <;> omega) (by constructor <;> omega)
    rw [← put_same t10, ← put_same t11, ← put_same t12, ← put_same t4, ← put_same t5, ← box_same b4, ← box_same b5]
    unfold b88_1 r88_8 r88_9 r88_10 r88_11
    repeat' (first
      | refine call3 rfl rfl rfl hP ?_
      | refine w_seq ?_
      | refine w_ops ?_
      | refine st_nil ?_
      | refine th_n ?_
      | refine th_x ?_
      | refine th_r ?_
      | refine bk_n ?_
      | refine bk_r ?_
      | refine bk_x ?_
      | refine bk_y (by decide) ?_
      | refine w_block ?_
      | refine w_skip ?_
      | refine w_exit ?_
      | refine w_true rfl ?_
      | refine w_false rfl ?_
      | refine w_condd rfl (fun hc => ?_) (fun hc => ?_)
      | refine w_cond rfl (fun hc => ?_) (fun hc => ?_)
      | refine mv_c rfl ?_
      | refine mv_ptr rfl ?_
      | refine mv_rp rfl ?_
      | refine mv_osl rfl ?_
      | refine mv_sp rfl ?_
      | refine mv_undef rfl ?_
      | refine lss_t rfl rfl (by omega) ?_
      | refine lss_f rfl rfl (by omega) ?_
      | refine lss_ rfl rfl ?_
      | refine addu_in rfl rfl (by omega) ?_
      | refine neg_in rfl (by omega) ?_
      | refine negu_ rfl ?_
      | refine add_in rfl rfl (by omega) ?_
      | refine alloc_ (fun u => ?_)
      | refine load_rp rfl (Nat.le_of_ble_eq_true rfl) rfl ?_
      | refine load_ptr rfl (by decide) rfl (Nat.le_of_ble_eq_true rfl) rfl ?_
      | refine load_sp rfl (by decide) rfl (by assumption) (Nat.le_of_ble_eq_true rfl) rfl ?_
      | refine store_ptr rfl rfl (by decide) rfl rfl (Nat.le_of_ble_eq_true rfl) rfl ?_
      | refine store_sp rfl rfl (by decide) rfl (by assumption) rfl (Nat.le_of_ble_eq_true rfl) rfl ?_
      | refine fad_ptr rfl rfl rfl ?_
      | refine fad_rp rfl (Nat.le_of_ble_eq_true rfl) rfl ?_
      | refine fad_sp rfl rfl rfl ?_
      | refine iaS_c rfl rfl (by omega) (by assumption) rfl ?_
      | refine iaS_osl rfl rfl rfl (by omega) rfl ?_
      | refine iaS_osl rfl rfl rfl (by first | omega | (simp; omega)) rfl ?_
      | refine un_ rfl rfl ?_
      | refine addu_ rfl rfl ?_
      | refine bin_ rfl rfl rfl ?_)
    exact ih (i + 1) (z + r.1 * -r.2) _ hn (by omega) hp' hr' (by omega) (by omega) (by omega) rfl rfl rfl rfl rfl rfl rfl hx

theorem C_Part (l o : List Run) (hlen : l.length < 4611686018427387904) (holen : o.length < 4611686018427387904) (hp : pos l) (hr : ranged l) (hs : sum l ≤ 1099511627776) (hpo : pos o) (hro : ranged o) (hso : sum o ≤ 1099511627776) :
    PCallG Try.prog 88 [.c (encL l), .c (encL o)] (.c (encW (wsum l - wsum o))) [] := by
  have hn := sum_nonneg hp
  have hno := sum_nonneg hpo
  have hb := wsum_bound hp hr
  refine pcallF Try.func88 c88 rfl ?_
  unfold p88 r88_0 r88_1 r88_2 r88_7 r88_12
  repeat' (first
    | refine w_seq ?_
    | refine w_ops ?_
    | refine st_nil ?_
    | refine th_n ?_
    | refine th_r ?_
    | refine bk_n ?_
    | refine bk_r ?_
    | refine bk_x ?_
    | refine bk_y (by decide) ?_
    | refine w_block ?_
    | refine w_ret ?_
    | refine mv_c rfl ?_
    | refine mv_ptr rfl ?_
    | refine mv_rp rfl ?_
    | refine mv_osl rfl ?_
    | refine mv_sp rfl ?_
    | refine mv_undef rfl ?_
    | refine alloc_ (fun u => ?_)
    | refine load_rp rfl (Nat.le_of_ble_eq_true rfl) rfl ?_
    | refine load_ptr rfl (by decide) rfl (Nat.le_of_ble_eq_true rfl) rfl ?_
    | refine load_sp rfl (by decide) rfl (by assumption) (Nat.le_of_ble_eq_true rfl) rfl ?_
    | refine store_ptr rfl rfl (by decide) rfl rfl (Nat.le_of_ble_eq_true rfl) rfl ?_
    | refine store_sp rfl rfl (by decide) rfl (by assumption) rfl (Nat.le_of_ble_eq_true rfl) rfl ?_
    | refine len_sl rfl (by first | assumption | exact List.length_map _) ?_
    | refine len_sl rfl rfl ?_
    | refine len_osl rfl rfl ?_
    | refine len_osl rfl rfl ?_)
  refine part_loop l o hlen _ _ _ l 0 0 _ rfl (by omega) hp hr (by omega) (by omega) (by omega) rfl rfl rfl rfl rfl rfl rfl rfl ?_
  intro s' t1 t4 b4 t5 b5
  rw [← put_same t1, ← put_same t4, ← put_same t5, ← box_same b4, ← box_same b5]
  repeat' (first
    | refine w_seq ?_
    | refine w_ops ?_
    | refine st_nil ?_
    | refine th_n ?_
    | refine th_r ?_
    | refine bk_n ?_
    | refine bk_r ?_
    | refine bk_x ?_
    | refine bk_y (by decide) ?_
    | refine w_block ?_
    | refine w_ret ?_
    | refine mv_c rfl ?_
    | refine mv_ptr rfl ?_
    | refine mv_rp rfl ?_
    | refine mv_osl rfl ?_
    | refine mv_sp rfl ?_
    | refine mv_undef rfl ?_
    | refine alloc_ (fun u => ?_)
    | refine load_rp rfl (Nat.le_of_ble_eq_true rfl) rfl ?_
    | refine load_ptr rfl (by decide) rfl (Nat.le_of_ble_eq_true rfl) rfl ?_
    | refine load_sp rfl (by decide) rfl (by assumption) (Nat.le_of_ble_eq_true rfl) rfl ?_
    | refine store_ptr rfl rfl (by decide) rfl rfl (Nat.le_of_ble_eq_true rfl) rfl ?_
    | refine store_sp rfl rfl (by decide) rfl (by assumption) rfl (Nat.le_of_ble_eq_true rfl) rfl ?_
    | refine len_sl rfl (by first | assumption | exact List.length_map _) ?_
    | refine len_sl rfl rfl ?_
    | refine len_osl rfl rfl ?_
    | refine len_osl rfl rfl ?_)
  refine part_loop2 o holen _ _ _ o 0 (0 + wsum l) _ rfl (by omega) hpo hro (by omega) (by omega) (by omega) rfl rfl rfl rfl rfl rfl rfl ?_
  intro s' t4 b4 t5 b5
  rw [← put_same t4, ← put_same t5, ← box_same b4, ← box_same b5]
  repeat' (first
    | refine w_seq ?_
    | refine w_ops ?_
    | refine st_nil ?_
    | refine th_n ?_
    | refine th_r ?_
    | refine bk_n ?_
    | refine bk_r ?_
    | refine bk_x ?_
    | refine bk_y (by decide) ?_
    | refine w_block ?_
    | refine w_ret ?_
    | refine mv_c rfl ?_
    | refine mv_ptr rfl ?_
    | refine mv_rp rfl ?_
    | refine mv_osl rfl ?_
    | refine mv_sp rfl ?_
    | refine mv_undef rfl ?_
    | refine alloc_ (fun u => ?_)
    | refine load_rp rfl (Nat.le_of_ble_eq_true rfl) rfl ?_
    | refine load_ptr rfl (by decide) rfl (Nat.le_of_ble_eq_true rfl) rfl ?_
    | refine load_sp rfl (by decide) rfl (by assumption) (Nat.le_of_ble_eq_true rfl) rfl ?_
    | refine store_ptr rfl rfl (by decide) rfl rfl (Nat.le_of_ble_eq_true rfl) rfl ?_
    | refine store_sp rfl rfl (by decide) rfl (by assumption) rfl (Nat.le_of_ble_eq_true rfl) rfl ?_
    | refine len_sl rfl (by first | assumption | exact List.length_map _) ?_
    | refine len_sl rfl rfl ?_
    | refine len_osl rfl rfl ?_
    | refine len_osl rfl rfl ?_)
  refine fin_r (rv_cell rfl rfl rfl rfl rv_nil) ?_
  rw [Int.zero_add]
  rfl
end Go.Proofs.Ytcmejdkjfekoeaa

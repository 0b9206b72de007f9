/- Part of the proof of CellSpoilt: lemmas. -/
import Derived.Test.YtcmejdkjfekoeaaCSpoilS5
import Derived.Test.YtcmejdkjfekoeaaCellSpoiltJ2
import Derived.Test.YtcmejdkjfekoeaaCellSpoiltJ3
import Derived.Test.YtcmejdkjfekoeaaCellSpoiltJ4
set_option linter.unusedVariables false
set_option linter.unusedSimpArgs false
namespace Go.Proofs.Ytcmejdkjfekoeaa
open Go.Pl Go.Bag
set_option maxHeartbeats 8000000
def back3 (w : Bool × Int × Int) : Int × Bool :=
  if w.2.1 ≠ 0 ∨ 9223372036854775808 < w.2.2 ∨ (w.2.2 = 9223372036854775808 ∧ w.1 = false) then (0, false)
  else if w.2.2 = 9223372036854775808 then (-9223372036854775808, true) else if w.1 then (-w.2.2, true) else (w.2.2, true)
theorem back3_of (z : Int) : back3 (of3 z) = if I64 z then (z, true) else (0, false) := by
  have h1 := absI_nn z
  unfold back3 of3
  simp only
  unfold absI at *
  by_cases hz : z < 0
  · simp only [hz, if_true, decide_true] at *
    split
    · rename_i h; rw [if_neg (show ¬ I64 z by unfold I64; simp at h; omega)]
    · rename_i h; simp at h; split
      · rw [if_pos (show I64 z by unfold I64; omega)]; congr 1; omega
      · rw [if_pos (show I64 z by unfold I64; omega)]; congr 1; omega
  · simp only [hz, if_false, decide_false] at *
    split
    · rename_i h; rw [if_neg (show ¬ I64 z by unfold I64; simp at h; omega)]
    · rename_i h; simp at h; split
      · rename_i h2; exfalso; omega
      · rw [if_pos (show I64 z by unfold I64; omega)]
        simp
        omega
theorem C_rBack (w : Bool × Int × Int) (hw : in3 w) : PCallG Try.prog 91 [.c (.agg (enc3 w))] (.c (tupI (back3 w))) [] := by
  obtain ⟨n, h, l⟩ := w
  obtain ⟨⟨h1, h2⟩, h3, h4⟩ := hw
  simp only at h1 h2 h3 h4
  show PCallG _ 91 [.c (.agg [.bool n, .int .u64 h, .int .u64 l])] _ _
  refine pcallF Try.func91 c91 rfl ?_
  unfold p91 r91_0 r91_1 r91_2 r91_3 r91_4 r91_5 r91_6 r91_7
  by_cases hh : h = 0
  · by_cases hl : 9223372036854775808 < l
    · have e : back3 (n, h, l) = (0, false) := by simp [back3, hl]
      rw [e]
      repeat' (first | refine w_seq ?_ | refine w_ops ?_ | refine st_nil ?_ | refine th_n ?_ | refine th_r ?_ | refine bk_r ?_ | refine w_block ?_ | refine w_ret ?_ | refine w_true rfl ?_ | refine g_yes rfl ?_ | refine g_no rfl ?_ | refine g_un rfl ?_ | refine mv_c rfl ?_ | refine pick_t rfl rfl ?_ | refine pick_f rfl rfl ?_ | refine gtr_t rfl rfl (by omega) ?_ | refine neq_f rfl rfl (by omega) ?_ | refine box_ rfl rfl rfl (fun u => ?_) | refine load_ptr rfl (by decide) rfl (Nat.le_of_ble_eq_true rfl) rfl ?_ | refine fad_ptr rfl rfl rfl ?_)
      exact fin_r rfl rfl
    · by_cases hq : l = 9223372036854775808
      · cases n with
        | false =>
          have e : back3 (false, h, l) = (0, false) := by simp [back3, hq]
          rw [e]
          repeat' (first | refine w_seq ?_ | refine w_ops ?_ | refine st_nil ?_ | refine th_n ?_ | refine th_r ?_ | refine bk_r ?_ | refine w_block ?_ | refine w_ret ?_ | refine w_true rfl ?_ | refine g_yes rfl ?_ | refine mv_c rfl ?_ | refine pick_t rfl rfl ?_ | refine pick_f rfl rfl ?_ | refine gtr_f rfl rfl (by omega) ?_ | refine eql_t rfl rfl (by omega) ?_ | refine neq_f rfl rfl (by omega) ?_ | refine not_ rfl ?_ | refine box_ rfl rfl rfl (fun u => ?_) | refine load_ptr rfl (by decide) rfl (Nat.le_of_ble_eq_true rfl) rfl ?_ | refine fad_ptr rfl rfl rfl ?_)
          exact fin_r rfl rfl
        | true =>
          have e : back3 (true, h, l) = (-9223372036854775808, true) := by simp [back3, hq, hh]
          rw [e]
          repeat' (first | refine w_seq ?_ | refine w_ops ?_ | refine st_nil ?_ | refine th_n ?_ | refine th_r ?_ | refine bk_r ?_ | refine w_block ?_ | refine w_ret ?_ | refine w_true rfl ?_ | refine w_false rfl ?_ | refine g_yes rfl ?_ | refine mv_c rfl ?_ | refine pick_t rfl rfl ?_ | refine pick_f rfl rfl ?_ | refine gtr_f rfl rfl (by omega) ?_ | refine eql_t rfl rfl (by omega) ?_ | refine neq_f rfl rfl (by omega) ?_ | refine not_ rfl ?_ | refine box_ rfl rfl rfl (fun u => ?_) | refine load_ptr rfl (by decide) rfl (Nat.le_of_ble_eq_true rfl) rfl ?_ | refine fad_ptr rfl rfl rfl ?_)
          exact fin_r rfl rfl
      · cases n with
        | false =>
          have e : back3 (false, h, l) = (l, true) := by simp [back3, hq, hh]; omega
          rw [e]
          repeat' (first | refine w_seq ?_ | refine w_ops ?_ | refine st_nil ?_ | refine th_n ?_ | refine bk_n ?_ | refine w_block ?_ | refine w_skip ?_ | refine w_ret ?_ | refine w_false rfl ?_ | refine g_yes rfl ?_ | refine g_no rfl ?_ | refine mv_c rfl ?_ | refine pick_f rfl rfl ?_ | refine gtr_f rfl rfl (by omega) ?_ | refine eql_f rfl rfl (by omega) ?_ | refine neq_f rfl rfl (by omega) ?_ | refine conv_in rfl (wrap64_in (by omega)) ?_ | refine box_ rfl rfl rfl (fun u => ?_) | refine load_ptr rfl (by decide) rfl (Nat.le_of_ble_eq_true rfl) rfl ?_ | refine fad_ptr rfl rfl rfl ?_)
          exact fin_r rfl rfl
        | true =>
          have e : back3 (true, h, l) = (-l, true) := by simp [back3, hq, hh]; omega
          rw [e]
          repeat' (first | refine w_seq ?_ | refine w_ops ?_ | refine st_nil ?_ | refine th_n ?_ | refine th_r ?_ | refine bk_r ?_ | refine w_block ?_ | refine w_ret ?_ | refine w_true rfl ?_ | refine w_false rfl ?_ | refine g_yes rfl ?_ | refine g_no rfl ?_ | refine mv_c rfl ?_ | refine pick_f rfl rfl ?_ | refine gtr_f rfl rfl (by omega) ?_ | refine eql_f rfl rfl (by omega) ?_ | refine neq_f rfl rfl (by omega) ?_ | refine conv_in rfl (wrap64_in (by omega)) ?_ | refine neg_in rfl (by omega) ?_ | refine box_ rfl rfl rfl (fun u => ?_) | refine load_ptr rfl (by decide) rfl (Nat.le_of_ble_eq_true rfl) rfl ?_ | refine fad_ptr rfl rfl rfl ?_)
          exact fin_r rfl rfl
  · have e : back3 (n, h, l) = (0, false) := by simp [back3, hh]
    rw [e]
    repeat' (first | refine w_seq ?_ | refine w_ops ?_ | refine st_nil ?_ | refine th_n ?_ | refine th_r ?_ | refine bk_r ?_ | refine w_block ?_ | refine w_ret ?_ | refine w_true rfl ?_ | refine g_no rfl ?_ | refine g_un rfl ?_ | refine mv_c rfl ?_ | refine pick_t rfl rfl ?_ | refine neq_t rfl rfl (by omega) ?_ | refine box_ rfl rfl rfl (fun u => ?_) | refine load_ptr rfl (by decide) rfl (Nat.le_of_ble_eq_true rfl) rfl ?_ | refine fad_ptr rfl rfl rfl ?_)
    exact fin_r rfl rfl
def wideS : Bool × Int × Int → List Run → Bool × Int × Int
  | w, [] => w
  | w, r :: l => wideS (plus3 w (of3 (r.1 * r.2))) l
theorem wideS_in : ∀ (l : List Run) (w : Bool × Int × Int), in3 w → in3 (wideS w l)
  | [], _, h => h
  | r :: l, _, _ => wideS_in l _ in3_plus
theorem wideS_of : ∀ (l : List Run) (z : Int), pos l → ranged l → absI z + 9223372036854775808 * sum l < 340282366920938463463374607431768211456 → wideS (of3 z) l = of3 (z + wsum l)
  | [], z, _, _, _ => by simp [wideS, wsum]
  | r :: l, z, hp, hr, hb => by
    have h1 := hp r (by simp)
    have hp' : pos l := fun q hq => hp q (by simp [hq])
    have h2 := sum_nonneg hp'
    have h3 := mul_bound (hr r (by simp)).1 (show 0 ≤ r.2 by omega)
    have h4 := absI_nn z
    simp only [sum] at hb
    have h5 : absI (r.1 * r.2) ≤ 9223372036854775808 * r.2 := by
      unfold absI
      split <;> omega
    have h6 : absI (z + r.1 * r.2) ≤ absI z + absI (r.1 * r.2) := by
      unfold absI
      split <;> split <;> split <;> omega
    rw [wideS, plus3_of (by omega), wideS_of l (z + r.1 * r.2) hp' (fun q hq => hr q (by simp [hq])) (by omega)]
    simp only [wsum]
    congr 1
    omega
theorem wide_loop {K : Ex → PS → Prop} (l : List Run) (hlen : l.length < 1000000) (v2 v3 : Nat) (c2 : List CV) : ∀ (rest : List Run) (i : Nat) (w : Bool × Int × Int) (s : PS), l.drop i = rest → i ≤ l.length → ranged rest →
    s.t 0 = .c (encL l) → s.t 4 = .c (.int .i64 i) → s.t 3 = .ptr 3 v3 0 → s.bx 3 = ⟨v3, .var (enc3 w)⟩ → s.t 2 = .ptr 2 v2 0 → s.bx 2 = ⟨v2, .var c2⟩ →
    (∀ s', s'.t 3 = .ptr 3 v3 0 → s'.bx 3 = ⟨v3, .var (enc3 (wideS w rest))⟩ → s'.t 2 = .ptr 2 v2 0 → s'.bx 2 = ⟨v2, .var c2⟩ → K (.x 0) s') → wP (PCallG Try.prog) (.loop b92_0) s K := by
  intro rest
  induction rest with
  | nil =>
    intro i w s hd hi hr t0 t4 t3 b3 t2 b2 hx
    refine w_loop ?_
    have hi' := get_end hd hi
    subst hi'
    rw [← put_same t0, ← put_same t4, ← put_same t3, ← box_same b3, ← put_same t2, ← box_same b2]
    unfold b92_0 r92_3 r92_4 r92_5
    repeat' (first | refine len_sl rfl (List.length_map _) ?_ | refine w_seq ?_ | refine w_ops ?_ | refine st_nil ?_ | refine th_n ?_ | refine th_x ?_ | refine w_exit ?_ | refine w_false rfl ?_ | refine mv_c rfl ?_ | refine lss_f rfl rfl (by omega) ?_)
    exact hx _ rfl rfl rfl rfl
  | cons r rest ih =>
    intro i w s hd hi hr t0 t4 t3 b3 t2 b2 hx
    refine w_loop ?_
    have he := get_enc hd
    have hil := get_len hd
    have hn := get_next hd
    have hr0 := hr r (by simp)
    have hT := C_rTimes r.1 r.2 hr0.1 hr0.2
    rw [← enc3_of] at hT
    have hP := C_rPlus w (of3 (r.1 * r.2))
    rw [← put_same t0, ← put_same t4, ← put_same t3, ← box_same b3, ← put_same t2, ← box_same b2]
    unfold b92_0 r92_3 r92_4 r92_5
    repeat' (first | refine len_sl rfl (List.length_map _) ?_ | refine call2 rfl rfl hT ?_ | refine call2 rfl rfl hP ?_ | refine w_seq ?_ | refine w_ops ?_ | refine w_opsD0 rfl ?_ | refine st_nil ?_ | refine th_n ?_ | refine bk_n ?_ | refine w_block ?_ | refine w_skip ?_ | refine w_true rfl ?_ | refine mv_c rfl ?_ | refine lss_t rfl rfl (by omega) ?_ | refine add_in rfl rfl (by omega) ?_ | refine load_rp rfl (Nat.le_of_ble_eq_true rfl) rfl ?_ | refine load_ptr rfl (by decide) rfl (Nat.le_of_ble_eq_true rfl) rfl ?_ | refine store_ptr rfl rfl (by decide) rfl rfl (Nat.le_of_ble_eq_true rfl) rfl ?_ | refine fad_rp rfl (Nat.le_of_ble_eq_true rfl) rfl ?_ | refine iaS_c rfl rfl (by omega) (by assumption) rfl ?_)
    exact ih (i + 1) (plus3 w (of3 (r.1 * r.2))) _ hn (by omega) (fun q hq => hr q (by simp [hq])) (by rfl) (by rfl) (by rfl) (by rfl) (by rfl) (by rfl) hx
theorem C_rWide (l : List Run) (hlen : l.length < 1000000) (hr : ranged l) : PCallG Try.prog 92 [.c (encL l)] (.c (.agg (enc3 (wideS (of3 0) l)))) [] := by
  refine pcallF Try.func92 c92 rfl ?_
  unfold p92 r92_0 r92_1 r92_2 r92_6
  repeat' (first | refine w_seq ?_ | refine w_ops ?_ | refine st_nil ?_ | refine th_n ?_ | refine w_block ?_ | refine mv_c rfl ?_ | refine alloc_ (fun u => ?_))
  refine wide_loop l hlen _ _ _ l 0 (of3 0) _ rfl (by omega) hr (by rfl) (by rfl) (by rfl) (by rfl) (by rfl) (by rfl) ?_
  intro s' t3 b3 t2 b2
  rw [← put_same t3, ← box_same b3, ← put_same t2, ← box_same b2]
  repeat' (first | refine w_seq ?_ | refine w_ops ?_ | refine st_nil ?_ | refine th_n ?_ | refine bk_x ?_ | refine w_ret ?_ | refine load_ptr rfl (by decide) rfl (Nat.le_of_ble_eq_true rfl) rfl ?_ | refine store_ptr rfl rfl (by decide) rfl rfl (Nat.le_of_ble_eq_true rfl) rfl ?_)
  exact fin_r (rv_cell rfl rfl rfl rfl rv_nil) rfl
end Go.Proofs.Ytcmejdkjfekoeaa
namespace Go.Proofs.Ytcmejdkjfekoeaa
open Go.Pl Go.Bag
set_option maxHeartbeats 8000000
def cmpI (a b : Int) : Int := if a < b then -1 else if b < a then 1 else 0
theorem cmpI_in (a b : Int) : -1 ≤ cmpI a b ∧ cmpI a b ≤ 1 := by unfold cmpI; split <;> (try split) <;> omega
theorem C_isNaN (a : Int) : PCallG Try.prog 124 [.c (.int .i64 a)] (.c (.bool false)) [] := by
  refine pcallF Try.func124 c124 rfl ?_
  unfold p124 r124_0 r124_1
  repeat' (first | refine w_seq ?_ | refine w_ops ?_ | refine st_nil ?_ | refine th_n ?_ | refine w_ret ?_ | refine mv_c rfl ?_ | refine neq_f rfl rfl (by omega) ?_)
  exact fin_r rfl rfl
theorem C_isNaNi (a : Int) : PCallG Try.prog 141 [.c (.int .i64 a)] (.c (.bool false)) [] := by
  refine pcallF Try.func141 c141 rfl ?_
  unfold p141 r141_0 r141_1
  repeat' (first | refine w_seq ?_ | refine w_ops ?_ | refine st_nil ?_ | refine th_n ?_ | refine w_ret ?_ | refine mv_c rfl ?_ | refine neq_f rfl rfl (by omega) ?_)
  exact fin_r rfl rfl
theorem C_isNaNu (a : Int) : PCallG Try.prog 142 [.c (.int .u64 a)] (.c (.bool false)) [] := by
  refine pcallF Try.func142 c142 rfl ?_
  unfold p142 r142_0 r142_1
  repeat' (first | refine w_seq ?_ | refine w_ops ?_ | refine st_nil ?_ | refine th_n ?_ | refine w_ret ?_ | refine mv_c rfl ?_ | refine neq_f rfl rfl (by omega) ?_)
  exact fin_r rfl rfl
theorem C_Compare (a b : Int) : PCallG Try.prog 97 [.c (.int .i64 a), .c (.int .i64 b)] (.c (.int .i64 (cmpI a b))) [] := by
  refine pcallF Try.func97 c97 rfl ?_
  have c1 := C_isNaN a
  have c2 := C_isNaN b
  unfold p97 r97_0 r97_1 r97_2 r97_3 r97_4 r97_5 r97_6 r97_7 r97_8 r97_9 r97_10 r97_11 r97_12 r97_13
  by_cases h1 : a < b
  · rw [show cmpI a b = -1 by simp [cmpI, h1]]
    repeat' (first | refine call1 rfl c1 ?_ | refine call1 rfl c2 ?_ | refine w_seq ?_ | refine w_ops ?_ | refine st_nil ?_ | refine th_n ?_ | refine th_r ?_ | refine w_skip ?_ | refine w_ret ?_ | refine w_true rfl ?_ | refine w_false rfl ?_ | refine mv_c rfl ?_ | refine lss_t rfl rfl (by omega) ?_)
    exact fin_r rfl rfl
  · by_cases h2 : b < a
    · rw [show cmpI a b = 1 by simp [cmpI, h1, h2]]
      repeat' (first | refine call1 rfl c1 ?_ | refine call1 rfl c2 ?_ | refine w_seq ?_ | refine w_ops ?_ | refine st_nil ?_ | refine th_n ?_ | refine th_r ?_ | refine w_skip ?_ | refine w_ret ?_ | refine w_true rfl ?_ | refine w_false rfl ?_ | refine mv_c rfl ?_ | refine lss_f rfl rfl (by omega) ?_ | refine gtr_t rfl rfl (by omega) ?_)
      exact fin_r rfl rfl
    · rw [show cmpI a b = 0 by simp [cmpI, h1, h2]]
      repeat' (first | refine call1 rfl c1 ?_ | refine call1 rfl c2 ?_ | refine w_seq ?_ | refine w_ops ?_ | refine st_nil ?_ | refine th_n ?_ | refine w_skip ?_ | refine w_ret ?_ | refine w_false rfl ?_ | refine mv_c rfl ?_ | refine lss_f rfl rfl (by omega) ?_ | refine gtr_f rfl rfl (by omega) ?_)
      exact fin_r rfl rfl
theorem C_Comparei (a b : Int) : PCallG Try.prog 126 [.c (.int .i64 a), .c (.int .i64 b)] (.c (.int .i64 (cmpI a b))) [] := by
  refine pcallF Try.func126 c126 rfl ?_
  have c1 := C_isNaNi a
  have c2 := C_isNaNi b
  unfold p126 r126_0 r126_1 r126_2 r126_3 r126_4 r126_5 r126_6 r126_7 r126_8 r126_9 r126_10 r126_11 r126_12 r126_13
  by_cases h1 : a < b
  · rw [show cmpI a b = -1 by simp [cmpI, h1]]
    repeat' (first | refine call1 rfl c1 ?_ | refine call1 rfl c2 ?_ | refine w_seq ?_ | refine w_ops ?_ | refine st_nil ?_ | refine th_n ?_ | refine th_r ?_ | refine w_skip ?_ | refine w_ret ?_ | refine w_true rfl ?_ | refine w_false rfl ?_ | refine mv_c rfl ?_ | refine lss_t rfl rfl (by omega) ?_)
    exact fin_r rfl rfl
  · by_cases h2 : b < a
    · rw [show cmpI a b = 1 by simp [cmpI, h1, h2]]
      repeat' (first | refine call1 rfl c1 ?_ | refine call1 rfl c2 ?_ | refine w_seq ?_ | refine w_ops ?_ | refine st_nil ?_ | refine th_n ?_ | refine th_r ?_ | refine w_skip ?_ | refine w_ret ?_ | refine w_true rfl ?_ | refine w_false rfl ?_ | refine mv_c rfl ?_ | refine lss_f rfl rfl (by omega) ?_ | refine gtr_t rfl rfl (by omega) ?_)
      exact fin_r rfl rfl
    · rw [show cmpI a b = 0 by simp [cmpI, h1, h2]]
      repeat' (first | refine call1 rfl c1 ?_ | refine call1 rfl c2 ?_ | refine w_seq ?_ | refine w_ops ?_ | refine st_nil ?_ | refine th_n ?_ | refine w_skip ?_ | refine w_ret ?_ | refine w_false rfl ?_ | refine mv_c rfl ?_ | refine lss_f rfl rfl (by omega) ?_ | refine gtr_f rfl rfl (by omega) ?_)
      exact fin_r rfl rfl
theorem C_Compareu (a b : Int) : PCallG Try.prog 128 [.c (.int .u64 a), .c (.int .u64 b)] (.c (.int .i64 (cmpI a b))) [] := by
  refine pcallF Try.func128 c128 rfl ?_
  have c1 := C_isNaNu a
  have c2 := C_isNaNu b
  unfold p128 r128_0 r128_1 r128_2 r128_3 r128_4 r128_5 r128_6 r128_7 r128_8 r128_9 r128_10 r128_11 r128_12 r128_13
  by_cases h1 : a < b
  · rw [show cmpI a b = -1 by simp [cmpI, h1]]
    repeat' (first | refine call1 rfl c1 ?_ | refine call1 rfl c2 ?_ | refine w_seq ?_ | refine w_ops ?_ | refine st_nil ?_ | refine th_n ?_ | refine th_r ?_ | refine w_skip ?_ | refine w_ret ?_ | refine w_true rfl ?_ | refine w_false rfl ?_ | refine mv_c rfl ?_ | refine lss_t rfl rfl (by omega) ?_)
    exact fin_r rfl rfl
  · by_cases h2 : b < a
    · rw [show cmpI a b = 1 by simp [cmpI, h1, h2]]
      repeat' (first | refine call1 rfl c1 ?_ | refine call1 rfl c2 ?_ | refine w_seq ?_ | refine w_ops ?_ | refine st_nil ?_ | refine th_n ?_ | refine th_r ?_ | refine w_skip ?_ | refine w_ret ?_ | refine w_true rfl ?_ | refine w_false rfl ?_ | refine mv_c rfl ?_ | refine lss_f rfl rfl (by omega) ?_ | refine gtr_t rfl rfl (by omega) ?_)
      exact fin_r rfl rfl
    · rw [show cmpI a b = 0 by simp [cmpI, h1, h2]]
      repeat' (first | refine call1 rfl c1 ?_ | refine call1 rfl c2 ?_ | refine w_seq ?_ | refine w_ops ?_ | refine st_nil ?_ | refine th_n ?_ | refine w_skip ?_ | refine w_ret ?_ | refine w_false rfl ?_ | refine mv_c rfl ?_ | refine lss_f rfl rfl (by omega) ?_ | refine gtr_f rfl rfl (by omega) ?_)
      exact fin_r rfl rfl
theorem C_Or2 (a b : Int) : PCallG Try.prog 127 [.c (encIL [a, b])] (.c (.int .i64 (if a ≠ 0 then a else b))) [] := by
  refine pcallF Try.func127 c127 rfl ?_
  have h0 : ([a, b].map encI)[(0 : Int).toNat]? = some (encI a) := rfl
  have h1 : ([a, b].map encI)[(1 : Int).toNat]? = some (encI b) := rfl
  unfold p127 r127_0 r127_1 r127_2 r127_8
  repeat' (first | refine len_sl (n := 2) rfl rfl ?_ | refine w_seq ?_ | refine w_ops ?_ | refine st_nil ?_ | refine th_n ?_ | refine w_block ?_ | refine mv_c rfl ?_)
  refine w_loop ?_
  unfold b127_0 r127_3 r127_4 r127_5 r127_6 r127_7
  by_cases ha : a = 0
  · rw [if_neg (by omega)]
    repeat' (first | refine w_seq ?_ | refine w_ops ?_ | refine st_nil ?_ | refine th_n ?_ | refine bk_n ?_ | refine w_block ?_ | refine w_skip ?_ | refine w_true rfl ?_ | refine w_false rfl ?_ | refine mv_c rfl ?_ | refine lss_t rfl rfl (by omega) ?_ | refine neq_f rfl rfl (by omega) ?_ | refine add_in rfl rfl (by omega) ?_ | refine load_rp rfl (Nat.le_of_ble_eq_true rfl) rfl ?_ | refine iaS_c rfl rfl (by omega) (by assumption) rfl ?_)
    refine w_loop ?_
    by_cases hb : b = 0
    · repeat' (first | refine w_seq ?_ | refine w_ops ?_ | refine st_nil ?_ | refine th_n ?_ | refine bk_n ?_ | refine w_block ?_ | refine w_skip ?_ | refine w_true rfl ?_ | refine w_false rfl ?_ | refine mv_c rfl ?_ | refine lss_t rfl rfl (by omega) ?_ | refine neq_f rfl rfl (by omega) ?_ | refine add_in rfl rfl (by omega) ?_ | refine load_rp rfl (Nat.le_of_ble_eq_true rfl) rfl ?_ | refine iaS_c rfl rfl (by omega) (by assumption) rfl ?_)
      refine w_loop ?_
      repeat' (first | refine w_seq ?_ | refine w_ops ?_ | refine st_nil ?_ | refine th_n ?_ | refine th_x ?_ | refine bk_x ?_ | refine w_exit ?_ | refine w_ret ?_ | refine w_false rfl ?_ | refine mv_c rfl ?_ | refine lss_f rfl rfl (by omega) ?_)
      exact fin_r rfl (by rw [hb]; rfl)
    · repeat' (first | refine w_seq ?_ | refine w_ops ?_ | refine st_nil ?_ | refine th_n ?_ | refine th_r ?_ | refine bk_r ?_ | refine w_block ?_ | refine w_skip ?_ | refine w_ret ?_ | refine w_true rfl ?_ | refine mv_c rfl ?_ | refine lss_t rfl rfl (by omega) ?_ | refine neq_t rfl rfl (by omega) ?_ | refine load_rp rfl (Nat.le_of_ble_eq_true rfl) rfl ?_ | refine iaS_c rfl rfl (by omega) (by assumption) rfl ?_)
      exact fin_r rfl rfl
  · rw [if_pos (by omega)]
    repeat' (first | refine w_seq ?_ | refine w_ops ?_ | refine st_nil ?_ | refine th_n ?_ | refine th_r ?_ | refine bk_r ?_ | refine w_block ?_ | refine w_skip ?_ | refine w_ret ?_ | refine w_true rfl ?_ | refine mv_c rfl ?_ | refine lss_t rfl rfl (by omega) ?_ | refine neq_t rfl rfl (by omega) ?_ | refine load_rp rfl (Nat.le_of_ble_eq_true rfl) rfl ?_ | refine iaS_c rfl rfl (by omega) (by assumption) rfl ?_)
    exact fin_r rfl rfl
def sgn2 (a b : Int) : Int := cmpI a 0 * cmpI b 0
theorem C_sign (a b : Int) : PCallG Try.prog 125 [.c (.int .i64 a), .c (.int .i64 b)] (.c (.int .i64 (sgn2 a b))) [] := by
  refine pcallF Try.func125 c125 rfl ?_
  have c1 := C_Compare a 0
  have c2 := C_Compare b 0
  have h1 := cmpI_in a 0
  have h2 := cmpI_in b 0
  unfold sgn2
  generalize cmpI a 0 = s at *
  generalize cmpI b 0 = t at *
  have h3 : -9223372036854775808 ≤ s * t ∧ s * t ≤ 9223372036854775807 := by
    obtain rfl | rfl | rfl : s = -1 ∨ s = 0 ∨ s = 1 := by omega
    all_goals omega
  unfold p125 r125_0 r125_1
  repeat' (first | refine call2 rfl rfl c1 ?_ | refine call2 rfl rfl c2 ?_ | refine mul_in rfl rfl h3 ?_ | refine w_seq ?_ | refine w_ops ?_ | refine st_nil ?_ | refine th_n ?_ | refine w_ret ?_ | refine mv_c rfl ?_)
  exact fin_r rfl rfl
theorem sgn2_eq (a b : Int) : sgn2 a b = cmpI (a * b) 0 := by
  unfold sgn2 cmpI
  rcases Int.lt_trichotomy a 0 with ha | ha | ha
  · rcases Int.lt_trichotomy b 0 with hb | hb | hb
    · have := Int.mul_pos_of_neg_of_neg ha hb
      rw [if_pos ha, if_pos hb, if_neg (by omega), if_pos this]; rfl
    · subst hb; simp
    · have := Int.mul_neg_of_neg_of_pos ha hb
      rw [if_pos ha, if_neg (by omega), if_pos hb, if_pos this]; rfl
  · subst ha; simp
  · rcases Int.lt_trichotomy b 0 with hb | hb | hb
    · have := Int.mul_neg_of_pos_of_neg ha hb
      rw [if_neg (by omega), if_pos ha, if_pos hb, if_pos this]; rfl
    · subst hb; simp
    · have := Int.mul_pos ha hb
      rw [if_neg (by omega), if_pos ha, if_neg (by omega), if_pos hb, if_neg (by omega), if_pos this]; rfl
theorem absI_mul (a b : Int) : absI a * absI b = absI (a * b) := by
  have h := abs_prod a b
  have h0 := Int.mul_nonneg (absI_nn a) (absI_nn b)
  rw [h] at h0 ⊢
  by_cases hc : (a < 0) ≠ (b < 0)
  · rw [if_pos hc] at h0 ⊢
    unfold absI; split <;> omega
  · rw [if_neg hc] at h0 ⊢
    unfold absI; split <;> omega
theorem cmp_ne {x y : Int} (h : cmpI x 0 ≠ cmpI y 0) : cmpI (cmpI x 0) (cmpI y 0) = cmpI x y := by
  unfold cmpI at *
  rcases Int.lt_trichotomy x 0 with hx | hx | hx <;> rcases Int.lt_trichotomy y 0 with hy | hy | hy
  all_goals
    first
      | (exfalso; apply h; simp [hx, hy, show ¬ x < 0 by omega, show ¬ y < 0 by omega]; done)
      | (exfalso; apply h; simp [hx, hy]; done)
      | skip
  all_goals
    have a1 : (if x < 0 then (-1 : Int) else if 0 < x then 1 else 0) = (if x < 0 then (-1 : Int) else if 0 < x then 1 else 0) := rfl
    (repeat' split) <;> omega
theorem cmp_abs {x y : Int} (h : cmpI x 0 = cmpI y 0) : cmpI x 0 * cmpI (absI x) (absI y) = cmpI x y := by
  unfold cmpI absI at *
  rcases Int.lt_trichotomy x 0 with hx | hx | hx <;> rcases Int.lt_trichotomy y 0 with hy | hy | hy
  all_goals
    first
      | (rw [if_pos hx] at h ⊢; rw [if_pos hx, if_pos hy]; (repeat' split) <;> omega)
      | (subst hx; subst hy; simp; done)
      | (rw [if_neg (show ¬ x < 0 by omega), if_pos hx] at h ⊢; rw [if_neg (show ¬ x < 0 by omega), if_neg (show ¬ y < 0 by omega)]; (repeat' split) <;> omega)
      | (exfalso; revert h; (repeat' split) <;> omega)
theorem cmp_parts {A B : Int} (hA : 0 ≤ A) (hB : 0 ≤ B) : (if cmpI (A / 18446744073709551616) (B / 18446744073709551616) ≠ 0 then cmpI (A / 18446744073709551616) (B / 18446744073709551616) else cmpI (A % 18446744073709551616) (B % 18446744073709551616)) = cmpI A B := by
  unfold cmpI
  by_cases h1 : A / 18446744073709551616 < B / 18446744073709551616
  · rw [if_pos h1, if_pos (by decide), if_pos (by omega)]
  · by_cases h2 : B / 18446744073709551616 < A / 18446744073709551616
    · rw [if_neg h1, if_pos h2, if_pos (by decide), if_neg (by omega), if_pos (by omega)]
    · rw [if_neg h1, if_neg h2, if_neg (by decide)]
      by_cases h3 : A % 18446744073709551616 < B % 18446744073709551616
      · rw [if_pos h3, if_pos (by omega)]
      · by_cases h4 : B % 18446744073709551616 < A % 18446744073709551616
        · rw [if_neg h3, if_pos h4, if_neg (by omega), if_pos (by omega)]
        · rw [if_neg h3, if_neg h4, if_neg (by omega), if_neg (by omega)]
theorem C_Cmp (a b c d : Int) (ha : I64 a) (hb : I64 b) (hc : I64 c) (hd : I64 d) : PCallG Try.prog 98 [.c (.int .i64 a), .c (.int .i64 b), .c (.int .i64 c), .c (.int .i64 d)] (.c (.int .i64 (cmpI (a * b) (c * d)))) [] := by
  refine pcallF Try.func98 c98 rfl ?_
  have c1 := C_sign a b
  have c2 := C_sign c d
  rw [sgn2_eq] at c1 c2
  have i1 := cmpI_in (a * b) 0
  have i2 := cmpI_in (c * d) 0
  have c3 := C_Comparei (cmpI (a * b) 0) (cmpI (c * d) 0)
  have c4 := C_Size a ha
  have c5 := C_Size b hb
  have c6 := C_Size c hc
  have c7 := C_Size d hd
  have b4 := absI_in ha
  have b5 := absI_in hb
  have b6 := absI_in hc
  have b7 := absI_in hd
  have c8 := C_Mul64 (absI a) (absI b) (by omega) (by omega)
  have c9 := C_Mul64 (absI c) (absI d) (by omega) (by omega)
  have nab := Int.mul_nonneg (absI_nn a) (absI_nn b)
  have ncd := Int.mul_nonneg (absI_nn c) (absI_nn d)
  have hp := cmp_parts nab ncd
  by_cases hne : cmpI (a * b) 0 = cmpI (c * d) 0
  · have hfin := cmp_abs hne
    rw [← absI_mul, ← absI_mul] at hfin
    rw [← hfin, ← hp]
    unfold mul64 at c8 c9
    generalize absI a * absI b / 18446744073709551616 = h1 at *
    generalize absI a * absI b % 18446744073709551616 = l1 at *
    generalize absI c * absI d / 18446744073709551616 = h2 at *
    generalize absI c * absI d % 18446744073709551616 = l2 at *
    have d1 := C_Compareu h1 h2
    have d2 := C_Compareu l1 l2
    have j1 := cmpI_in h1 h2
    have j2 := cmpI_in l1 l2
    have d3 := C_Or2 (cmpI h1 h2) (cmpI l1 l2)
    generalize cmpI h1 h2 = p at *
    generalize cmpI l1 l2 = q at *
    rw [← hne] at c2
    generalize cmpI (a * b) 0 = s at *
    have hr : -1 ≤ (if p ≠ 0 then p else q) ∧ (if p ≠ 0 then p else q) ≤ 1 := by split <;> omega
    generalize (if p ≠ 0 then p else q) = r at *
    have h3 : -9223372036854775808 ≤ s * r ∧ s * r ≤ 9223372036854775807 := by
      obtain rfl | rfl | rfl : s = -1 ∨ s = 0 ∨ s = 1 := by omega
      all_goals omega
    unfold p98 r98_0 r98_1 r98_2 r98_3 r98_4 r98_5 r98_6
    repeat' (first | refine call2 rfl rfl c1 ?_ | refine call2 rfl rfl c2 ?_ | refine call1 rfl c4 ?_ | refine call1 rfl c5 ?_ | refine call1 rfl c6 ?_ | refine call1 rfl c7 ?_ | refine call2 rfl rfl c8 ?_ | refine call2 rfl rfl c9 ?_ | refine call2 rfl rfl d1 ?_ | refine call2 rfl rfl d2 ?_ | refine call1 rfl d3 ?_ | refine mul_in rfl rfl h3 ?_ | refine w_seq ?_ | refine w_ops ?_ | refine st_nil ?_ | refine th_n ?_ | refine w_skip ?_ | refine w_ret ?_ | refine w_false rfl ?_ | refine mv_c rfl ?_ | refine neq_f rfl rfl (by omega) ?_ | refine bsl_ rfl rfl ?_ | refine ext_ rfl rfl ?_)
    exact fin_r rfl rfl
  · rw [← cmp_ne hne]
    generalize cmpI (a * b) 0 = s at *
    generalize cmpI (c * d) 0 = t at *
    unfold p98 r98_0 r98_1 r98_2 r98_3 r98_4 r98_5 r98_6
    repeat' (first | refine call2 rfl rfl c1 ?_ | refine call2 rfl rfl c2 ?_ | refine call2 rfl rfl c3 ?_ | refine w_seq ?_ | refine w_ops ?_ | refine st_nil ?_ | refine th_n ?_ | refine th_r ?_ | refine w_ret ?_ | refine w_true rfl ?_ | refine mv_c rfl ?_ | refine neq_t rfl rfl (by omega) ?_)
    exact fin_r rfl rfl
theorem eq3_of (x y : Int) : eqC true [LK.b, LK.i, LK.i] (.agg (cellsV x)) (.agg (cellsV y)) = some (decide (x = y)) := by
  have h1 := absI_nn x
  have h2 := absI_nn y
  have e : eqC true [LK.b, LK.i, LK.i] (.agg (cellsV x)) (.agg (cellsV y)) = some ((decide (x < 0) == decide (y < 0)) && ((absI x / 18446744073709551616 == absI y / 18446744073709551616) && ((absI x % 18446744073709551616 == absI y % 18446744073709551616) && true))) := by
    simp [eqC, cellsV, shEq]
  rw [e]
  congr 1
  by_cases h : x = y
  · subst h; simp
  · rw [decide_eq_false h]
    by_cases hs : (x < 0 ↔ y < 0)
    · have : ¬ absI x = absI y := by unfold absI; split <;> split <;> omega
      have : ¬ (absI x / 18446744073709551616 = absI y / 18446744073709551616 ∧ absI x % 18446744073709551616 = absI y % 18446744073709551616) := by omega
      simp only [Bool.and_true, Bool.and_eq_false_iff, beq_eq_false_iff_ne]
      by_cases h3 : absI x / 18446744073709551616 = absI y / 18446744073709551616
      · exact .inr (.inr fun h4 => this ⟨h3, h4⟩)
      · exact .inr (.inl h3)
    · have : (decide (x < 0) == decide (y < 0)) = false := by
        rw [beq_eq_false_iff_ne]
        intro h3
        rw [decide_eq_decide] at h3
        exact hs h3
      rw [this]; rfl
theorem C_rOf1 (a : Int) (ha : I64 a) : PCallG Try.prog 95 [.c (.int .i64 a)] (.c (.agg (cellsV a))) [] := by
  refine pcallF Try.func95 c95 rfl ?_
  have hA := absI_in ha
  have c1 := C_rSize a ha
  have e : cellsV a = [.bool (decide (a < 0)), .int .u64 0, .int .u64 (absI a)] := by
    unfold cellsV
    rw [show absI a / 18446744073709551616 = 0 by omega, show absI a % 18446744073709551616 = absI a by omega]
  rw [e]
  unfold p95 r95_0 r95_1
  repeat' (first | refine call1 rfl c1 ?_ | refine w_seq ?_ | refine w_ops ?_ | refine st_nil ?_ | refine th_n ?_ | refine w_ret ?_ | refine mv_c rfl ?_ | refine lss_ rfl rfl ?_ | refine alloc_ (fun u => ?_) | refine build_ rfl rfl ?_ | refine store_ptr rfl rfl (by decide) rfl rfl (Nat.le_of_ble_eq_true rfl) rfl ?_)
  exact fin_r (rv_cell rfl rfl rfl rfl rv_nil) rfl
theorem C_Add (a b : Int) (ha : I64 a) (hb : I64 b) : PCallG Try.prog 96 [.c (.int .i64 a), .c (.int .i64 b)] (.c (if I64 (a + b) then .tup [.int .i64 (a + b), .bool true] else .tup [.int .i64 0, .bool false])) [] := by
  refine pcallF Try.func96 c96 rfl ?_
  have c1 := C_Total [a, b] (by simp) (fun x hx => by simp at hx; rcases hx with rfl | rfl <;> assumption)
  have e : totI [a, b] = a + b := by simp [totI]
  unfold totB at c1
  rw [e] at c1
  unfold p96 r96_0 r96_1
  by_cases h : I64 (a + b)
  · rw [if_pos h] at c1 ⊢
    repeat' (first | refine call1 rfl c1 ?_ | refine w_seq ?_ | refine w_ops ?_ | refine st_nil ?_ | refine th_n ?_ | refine w_ret ?_ | refine mv_c rfl ?_ | refine bsl_ rfl rfl ?_ | refine ext_ rfl rfl ?_)
    exact fin_r rfl rfl
  · rw [if_neg h] at c1 ⊢
    repeat' (first | refine call1 rfl c1 ?_ | refine w_seq ?_ | refine w_ops ?_ | refine st_nil ?_ | refine th_n ?_ | refine w_ret ?_ | refine mv_c rfl ?_ | refine bsl_ rfl rfl ?_ | refine ext_ rfl rfl ?_)
    exact fin_r rfl rfl
theorem C_measures (m : Int) : PCallG Try.prog 94 [.c (.int .i64 m)] (.c (.bool (decide (1 ≤ m ∧ m ≤ 2)))) [] := by
  refine pcallF Try.func94 c94 rfl ?_
  unfold p94 r94_0 r94_1
  by_cases h1 : 1 ≤ m
  · by_cases h2 : m ≤ 2
    · rw [decide_eq_true (by omega)]
      repeat' (first | refine w_seq ?_ | refine w_ops ?_ | refine st_nil ?_ | refine th_n ?_ | refine w_ret ?_ | refine g_yes rfl ?_ | refine mv_c rfl ?_ | refine pick_t rfl rfl ?_ | refine leq_t rfl rfl (by omega) ?_ | refine geq_t rfl rfl (by omega) ?_)
      exact fin_r rfl rfl
    · rw [decide_eq_false (by omega)]
      repeat' (first | refine w_seq ?_ | refine w_ops ?_ | refine st_nil ?_ | refine th_n ?_ | refine w_ret ?_ | refine g_yes rfl ?_ | refine mv_c rfl ?_ | refine pick_t rfl rfl ?_ | refine leq_f rfl rfl (by omega) ?_ | refine geq_t rfl rfl (by omega) ?_)
      exact fin_r rfl rfl
  · rw [decide_eq_false (by omega)]
    repeat' (first | refine w_seq ?_ | refine w_ops ?_ | refine st_nil ?_ | refine th_n ?_ | refine w_ret ?_ | refine g_no rfl ?_ | refine mv_c rfl ?_ | refine pick_f rfl rfl ?_ | refine geq_f rfl rfl (by omega) ?_)
    exact fin_r rfl rfl
end Go.Proofs.Ytcmejdkjfekoeaa
namespace Go.Proofs.Ytcmejdkjfekoeaa
open Go.Pl Go.Bag
set_option maxHeartbeats 16000000
theorem C_cGood (m : Int) (c : Cell) (hc : inC 1000000 c) : PCallG Try.prog 47 [.c (.int .i64 m), .c (encCell c)] (.c (.bool (goodC m c))) [] := by
  obtain ⟨n, s0, s1, b0, b1⟩ := c
  obtain ⟨hn, hs0, hs1, hr0, hr1, hl0, hl1⟩ := hc
  simp only at hn hs0 hs1 hr0 hr1 hl0 hl1
  show PCallG _ 47 [.c (.int .i64 m), .c (.agg [.int .i64 n, .int .i64 s0, .int .i64 s1, encL b0, encL b1])] _ _
  refine pcallF Try.func47 c47 rfl ?_
  have c1 := C_measures m
  have c2 := C_Sum b0 (by omega) hr0
  have c3 := C_Sum b1 (by omega) hr1
  have c4 := C_Count b0 (by omega)
  have c5 := C_Count b1 (by omega)
  -- what a measure's values come to, and what of it
  have key : ∀ (b : List Run) (s : Int), I64 s → (gM b s n = true ∧ sumB b = (s, true) ∧ (if good b = true then sum b else 0) = n) ∨
      (gM b s n = false ∧ ((sumB b).2 = false ∨ ((sumB b).2 = true ∧ (sumB b).1 ≠ s) ∨ ((sumB b).2 = true ∧ (sumB b).1 = s ∧ (if good b = true then sum b else 0) ≠ n))) := fun b s hs => by
    cases hg : good b with
    | false =>
      refine .inr ⟨by simp [gM, hg], .inl (by simp [sumB, hg])⟩
    | true =>
      by_cases hw : I64 (wsum b)
      · have e : sumB b = (wsum b, true) := by simp [sumB, hg, hw]
        rw [e]
        simp only [if_true]
        by_cases h1 : wsum b = s
        · by_cases h2 : sum b = n
          · exact .inl ⟨by simp [gM, hg, h1, h2], by rw [h1], h2⟩
          · exact .inr ⟨by simp [gM, h2], .inr (.inr ⟨trivial, h1, h2⟩)⟩
        · exact .inr ⟨by simp [gM, h1], .inr (.inl ⟨trivial, h1⟩)⟩
      · have e : sumB b = (0, false) := by simp [sumB, hw]
        refine .inr ⟨?_, .inl (by rw [e])⟩
        have : ¬ wsum b = s := fun h => hw (by rw [h]; exact hs)
        simp [gM, this]
  unfold p47 r47_0 r47_1 r47_2 r47_3 r47_13
  by_cases hm : 1 ≤ m ∧ m ≤ 2
  · rw [decide_eq_true hm] at c1
    by_cases hnn : 1 ≤ n ∧ n ≤ 1099511627776
    · have k0 := key b0 s0 hs0
      have k1 := key b1 s1 hs1
      generalize sumB b0 = q at c2 k0
      generalize sumB b1 = r at c3 k1
      obtain ⟨q1, q2⟩ := q
      obtain ⟨r1, r2⟩ := r
      generalize (if good b0 = true then sum b0 else 0) = g0 at c4 k0
      generalize (if good b1 = true then sum b1 else 0) = g1 at c5 k1
      rcases k0 with ⟨p1, p2, p3⟩ | ⟨p1, p2⟩
      · obtain ⟨rfl, rfl⟩ := Prod.mk.inj p2
        subst p3
        repeat' (first | refine call1 rfl c1 ?_ | refine w_seq ?_ | refine w_ops ?_ | refine st_nil ?_ | refine th_n ?_ | refine w_block ?_ | refine w_skip ?_ | refine w_false rfl ?_ | refine g_yes rfl ?_ | refine mv_c rfl ?_ | refine pick_f rfl rfl ?_ | refine lss_f rfl rfl (by omega) ?_ | refine gtr_f rfl rfl (by omega) ?_ | refine not_ rfl ?_ | refine box_ rfl rfl rfl (fun u => ?_) | refine load_ptr rfl (by decide) rfl (Nat.le_of_ble_eq_true rfl) rfl ?_ | refine fad_ptr rfl rfl rfl ?_)
        refine w_loop ?_
        unfold b47_0 r47_4 r47_5 r47_6 r47_7 r47_8 r47_9 r47_10 r47_11 r47_12
        repeat' (first | refine idA_ rfl rfl ⟨by omega, by omega, Nat.le_of_ble_eq_true rfl⟩ rfl ?_ | refine call1 rfl c2 ?_ | refine call1 rfl c4 ?_ | refine w_seq ?_ | refine w_ops ?_ | refine w_opsD0 rfl ?_ | refine st_nil ?_ | refine th_n ?_ | refine bk_n ?_ | refine w_block ?_ | refine w_skip ?_ | refine w_true rfl ?_ | refine w_false rfl ?_ | refine g_yes rfl ?_ | refine mv_c rfl ?_ | refine pick_f rfl rfl ?_ | refine lss_t rfl rfl (by omega) ?_ | refine geq_f rfl rfl (by omega) ?_ | refine neq_f rfl rfl (by omega) ?_ | refine not_ rfl ?_ | refine add_in rfl rfl (by omega) ?_ | refine load_ptr rfl (by decide) rfl (Nat.le_of_ble_eq_true rfl) rfl ?_ | refine fad_ptr rfl rfl rfl ?_ | refine iaA_ptr rfl rfl rfl (by omega) rfl ?_ | refine ext_ rfl rfl ?_)
        refine w_loop ?_
        by_cases hm2 : m = 2
        · rcases k1 with ⟨t1, t2, t3⟩ | ⟨t1, t2⟩
          · obtain ⟨rfl, rfl⟩ := Prod.mk.inj t2
            subst t3
            rw [goodC_iff.mpr ⟨hm, hnn, p1, by rw [if_pos hm2]; exact t1⟩]
            repeat' (first | refine idA_ rfl rfl ⟨by omega, by omega, Nat.le_of_ble_eq_true rfl⟩ rfl ?_ | refine call1 rfl c3 ?_ | refine call1 rfl c5 ?_ | refine w_seq ?_ | refine w_ops ?_ | refine w_opsD0 rfl ?_ | refine st_nil ?_ | refine th_n ?_ | refine bk_n ?_ | refine w_block ?_ | refine w_skip ?_ | refine w_true rfl ?_ | refine w_false rfl ?_ | refine g_yes rfl ?_ | refine mv_c rfl ?_ | refine pick_f rfl rfl ?_ | refine lss_t rfl rfl (by omega) ?_ | refine geq_f rfl rfl (by omega) ?_ | refine neq_f rfl rfl (by omega) ?_ | refine not_ rfl ?_ | refine add_in rfl rfl (by omega) ?_ | refine load_ptr rfl (by decide) rfl (Nat.le_of_ble_eq_true rfl) rfl ?_ | refine fad_ptr rfl rfl rfl ?_ | refine iaA_ptr rfl rfl rfl (by omega) rfl ?_ | refine ext_ rfl rfl ?_)
            refine w_loop ?_
            repeat' (first | refine w_seq ?_ | refine w_ops ?_ | refine st_nil ?_ | refine th_n ?_ | refine th_x ?_ | refine bk_x ?_ | refine w_exit ?_ | refine w_ret ?_ | refine w_false rfl ?_ | refine mv_c rfl ?_ | refine lss_f rfl rfl (by omega) ?_)
            exact fin_r rfl rfl
          · have e : goodC m ⟨g0, q1, s1, b0, b1⟩ = false := by
              rw [Bool.eq_false_iff]; intro h
              have := (goodC_iff.mp h).2.2.2
              rw [if_pos hm2] at this
              rw [this] at t1; cases t1
            rw [e]
            simp only at t2
            rcases t2 with rfl | ⟨rfl, t2⟩ | ⟨rfl, rfl, t2⟩
            all_goals
              repeat' (first | refine idA_ rfl rfl ⟨by omega, by omega, Nat.le_of_ble_eq_true rfl⟩ rfl ?_ | refine call1 rfl c3 ?_ | refine call1 rfl c5 ?_ | refine w_seq ?_ | refine w_ops ?_ | refine w_opsD0 rfl ?_ | refine st_nil ?_ | refine th_n ?_ | refine th_r ?_ | refine bk_r ?_ | refine w_block ?_ | refine w_skip ?_ | refine w_ret ?_ | refine w_true rfl ?_ | refine w_false rfl ?_ | refine g_yes rfl ?_ | refine g_no rfl ?_ | refine mv_c rfl ?_ | refine pick_t rfl rfl ?_ | refine pick_f rfl rfl ?_ | refine lss_t rfl rfl (by omega) ?_ | refine geq_f rfl rfl (by omega) ?_ | refine neq_t rfl rfl (by omega) ?_ | refine neq_f rfl rfl (by omega) ?_ | refine not_ rfl ?_ | refine load_ptr rfl (by decide) rfl (Nat.le_of_ble_eq_true rfl) rfl ?_ | refine fad_ptr rfl rfl rfl ?_ | refine iaA_ptr rfl rfl rfl (by omega) rfl ?_ | refine ext_ rfl rfl ?_)
            all_goals exact fin_r rfl rfl
        · by_cases h1 : s1 = 0
          · cases b1 with
            | nil =>
              rw [goodC_iff.mpr ⟨hm, hnn, p1, by rw [if_neg hm2]; exact ⟨h1, rfl⟩⟩]
              repeat' (first | refine idA_ rfl rfl ⟨by omega, by omega, Nat.le_of_ble_eq_true rfl⟩ rfl ?_ | refine len_sl (es := []) rfl rfl ?_ | refine w_seq ?_ | refine w_ops ?_ | refine st_nil ?_ | refine th_n ?_ | refine th_x ?_ | refine bk_x ?_ | refine w_block ?_ | refine w_skip ?_ | refine w_exit ?_ | refine w_true rfl ?_ | refine w_false rfl ?_ | refine g_yes rfl ?_ | refine mv_c rfl ?_ | refine pick_f rfl rfl ?_ | refine lss_t rfl rfl (by omega) ?_ | refine gtr_ rfl rfl ?_ | refine geq_t rfl rfl (by omega) ?_ | refine neq_f rfl rfl (by omega) ?_ | refine add_in rfl rfl (by omega) ?_ | refine load_ptr rfl (by decide) rfl (Nat.le_of_ble_eq_true rfl) rfl ?_ | refine fad_ptr rfl rfl rfl ?_ | refine iaA_ptr rfl rfl rfl (by omega) rfl ?_)
              refine w_loop ?_
              repeat' (first | refine w_seq ?_ | refine w_ops ?_ | refine st_nil ?_ | refine th_n ?_ | refine th_x ?_ | refine bk_x ?_ | refine w_exit ?_ | refine w_ret ?_ | refine w_false rfl ?_ | refine mv_c rfl ?_ | refine lss_f rfl rfl (by omega) ?_)
              exact fin_r rfl rfl
            | cons x b1 =>
              have e : goodC m ⟨g0, q1, s1, b0, x :: b1⟩ = false := by
                rw [Bool.eq_false_iff]; intro h
                have := (goodC_iff.mp h).2.2.2
                rw [if_neg hm2] at this
                cases this.2
              rw [e]
              have hp : 0 < (x :: b1).length := by simp
              repeat' (first | refine idA_ rfl rfl ⟨by omega, by omega, Nat.le_of_ble_eq_true rfl⟩ rfl ?_ | refine len_sl rfl (List.length_map _) ?_ | refine w_seq ?_ | refine w_ops ?_ | refine st_nil ?_ | refine th_n ?_ | refine th_r ?_ | refine bk_r ?_ | refine w_block ?_ | refine w_skip ?_ | refine w_ret ?_ | refine w_true rfl ?_ | refine g_yes rfl ?_ | refine mv_c rfl ?_ | refine pick_f rfl rfl ?_ | refine lss_t rfl rfl (by omega) ?_ | refine gtr_t rfl rfl (by omega) ?_ | refine geq_t rfl rfl (by omega) ?_ | refine neq_f rfl rfl (by omega) ?_ | refine load_ptr rfl (by decide) rfl (Nat.le_of_ble_eq_true rfl) rfl ?_ | refine fad_ptr rfl rfl rfl ?_ | refine iaA_ptr rfl rfl rfl (by omega) rfl ?_)
              exact fin_r rfl rfl
          · have e : goodC m ⟨g0, q1, s1, b0, b1⟩ = false := by
              rw [Bool.eq_false_iff]; intro h
              have := (goodC_iff.mp h).2.2.2
              rw [if_neg hm2] at this
              exact h1 this.1
            rw [e]
            repeat' (first | refine idA_ rfl rfl ⟨by omega, by omega, Nat.le_of_ble_eq_true rfl⟩ rfl ?_ | refine w_seq ?_ | refine w_ops ?_ | refine st_nil ?_ | refine th_n ?_ | refine th_r ?_ | refine bk_r ?_ | refine w_block ?_ | refine w_skip ?_ | refine w_ret ?_ | refine w_true rfl ?_ | refine g_no rfl ?_ | refine mv_c rfl ?_ | refine pick_t rfl rfl ?_ | refine lss_t rfl rfl (by omega) ?_ | refine geq_t rfl rfl (by omega) ?_ | refine neq_t rfl rfl (by omega) ?_ | refine load_ptr rfl (by decide) rfl (Nat.le_of_ble_eq_true rfl) rfl ?_ | refine fad_ptr rfl rfl rfl ?_ | refine iaA_ptr rfl rfl rfl (by omega) rfl ?_)
            exact fin_r rfl rfl
      · have e : goodC m ⟨n, s0, s1, b0, b1⟩ = false := by
          rw [Bool.eq_false_iff]; intro h
          have := (goodC_iff.mp h).2.2.1
          simp only at this
          rw [this] at p1; cases p1
        rw [e]
        simp only at p2
        rcases p2 with rfl | ⟨rfl, p2⟩ | ⟨rfl, rfl, p2⟩
        all_goals
          repeat' (first | refine call1 rfl c1 ?_ | refine w_seq ?_ | refine w_ops ?_ | refine st_nil ?_ | refine th_n ?_ | refine w_block ?_ | refine w_skip ?_ | refine w_false rfl ?_ | refine g_yes rfl ?_ | refine mv_c rfl ?_ | refine pick_f rfl rfl ?_ | refine lss_f rfl rfl (by omega) ?_ | refine gtr_f rfl rfl (by omega) ?_ | refine not_ rfl ?_ | refine box_ rfl rfl rfl (fun u => ?_) | refine load_ptr rfl (by decide) rfl (Nat.le_of_ble_eq_true rfl) rfl ?_ | refine fad_ptr rfl rfl rfl ?_)
        all_goals refine w_loop ?_
        all_goals
          unfold b47_0 r47_4 r47_5 r47_6 r47_7 r47_8 r47_9 r47_10 r47_11 r47_12
        all_goals
          repeat' (first | refine idA_ rfl rfl ⟨by omega, by omega, Nat.le_of_ble_eq_true rfl⟩ rfl ?_ | refine call1 rfl c2 ?_ | refine call1 rfl c4 ?_ | refine w_seq ?_ | refine w_ops ?_ | refine w_opsD0 rfl ?_ | refine st_nil ?_ | refine th_n ?_ | refine th_r ?_ | refine bk_r ?_ | refine w_block ?_ | refine w_skip ?_ | refine w_ret ?_ | refine w_true rfl ?_ | refine w_false rfl ?_ | refine g_yes rfl ?_ | refine g_no rfl ?_ | refine mv_c rfl ?_ | refine pick_t rfl rfl ?_ | refine pick_f rfl rfl ?_ | refine lss_t rfl rfl (by omega) ?_ | refine geq_f rfl rfl (by omega) ?_ | refine neq_t rfl rfl (by omega) ?_ | refine neq_f rfl rfl (by omega) ?_ | refine not_ rfl ?_ | refine load_ptr rfl (by decide) rfl (Nat.le_of_ble_eq_true rfl) rfl ?_ | refine fad_ptr rfl rfl rfl ?_ | refine iaA_ptr rfl rfl rfl (by omega) rfl ?_ | refine ext_ rfl rfl ?_)
        all_goals exact fin_r rfl rfl
    · have e : goodC m ⟨n, s0, s1, b0, b1⟩ = false := by
        rw [Bool.eq_false_iff]; intro h
        exact hnn (goodC_iff.mp h).2.1
      rw [e]
      by_cases h1 : n < 1
      · repeat' (first | refine call1 rfl c1 ?_ | refine w_seq ?_ | refine w_ops ?_ | refine st_nil ?_ | refine th_n ?_ | refine th_r ?_ | refine w_ret ?_ | refine w_true rfl ?_ | refine g_yes rfl ?_ | refine g_no rfl ?_ | refine mv_c rfl ?_ | refine pick_t rfl rfl ?_ | refine pick_f rfl rfl ?_ | refine lss_t rfl rfl (by omega) ?_ | refine not_ rfl ?_ | refine box_ rfl rfl rfl (fun u => ?_) | refine load_ptr rfl (by decide) rfl (Nat.le_of_ble_eq_true rfl) rfl ?_ | refine fad_ptr rfl rfl rfl ?_)
        exact fin_r rfl rfl
      · repeat' (first | refine call1 rfl c1 ?_ | refine w_seq ?_ | refine w_ops ?_ | refine st_nil ?_ | refine th_n ?_ | refine th_r ?_ | refine w_ret ?_ | refine w_true rfl ?_ | refine g_yes rfl ?_ | refine mv_c rfl ?_ | refine pick_f rfl rfl ?_ | refine lss_f rfl rfl (by omega) ?_ | refine gtr_t rfl rfl (by omega) ?_ | refine not_ rfl ?_ | refine box_ rfl rfl rfl (fun u => ?_) | refine load_ptr rfl (by decide) rfl (Nat.le_of_ble_eq_true rfl) rfl ?_ | refine fad_ptr rfl rfl rfl ?_)
        exact fin_r rfl rfl
  · rw [decide_eq_false hm] at c1
    have e : goodC m ⟨n, s0, s1, b0, b1⟩ = false := by
      rw [Bool.eq_false_iff]; intro h
      exact hm (goodC_iff.mp h).1
    rw [e]
    repeat' (first | refine call1 rfl c1 ?_ | refine w_seq ?_ | refine w_ops ?_ | refine st_nil ?_ | refine th_n ?_ | refine th_r ?_ | refine w_ret ?_ | refine w_true rfl ?_ | refine g_no rfl ?_ | refine mv_c rfl ?_ | refine pick_t rfl rfl ?_ | refine not_ rfl ?_ | refine box_ rfl rfl rfl (fun u => ?_))
    exact fin_r rfl rfl
theorem C_rcGood (m : Int) (c : Cell) (hc : inC 999999 c) : PCallG Try.prog 48 [.c (.int .i64 m), .c (encCell c)] (.c (.bool (goodC m c))) [] := by
  obtain ⟨n, s0, s1, b0, b1⟩ := c
  obtain ⟨hn, hs0, hs1, hr0, hr1, hl0, hl1⟩ := hc
  simp only at hn hs0 hs1 hr0 hr1 hl0 hl1
  show PCallG _ 48 [.c (.int .i64 m), .c (.agg [.int .i64 n, .int .i64 s0, .int .i64 s1, encL b0, encL b1])] _ _
  refine pcallF Try.func48 c48 rfl ?_
  have c2 := C_rGood b0 (by omega)
  have c3 := C_rGood b1 (by omega)
  have c4 := C_rCount b0 (by omega)
  have c5 := C_rCount b1 (by omega)
  have wide : ∀ (b : List Run), b.length ≤ 999999 → ranged b → good b = true → PCallG Try.prog 92 [.c (encL b)] (.c (.agg (cellsV (wsum b)))) [] := fun b hb hr hg => by
    have := C_rWide b (by omega) hr
    obtain ⟨g1, g2, g3⟩ := good_iff.mp hg
    have h0 : cap = 1099511627776 := rfl
    rw [wideS_of b 0 g2 hr (by simp [absI]; omega), Int.zero_add, enc3_of] at this
    exact this
  have c6 := wide b0 hl0 hr0
  have c7 := wide b1 hl1 hr1
  have c8 := C_rOf1 s0 hs0
  have c9 := C_rOf1 s1 hs1
  have e0 := eq3_of (wsum b0) s0
  have e1 := eq3_of (wsum b1) s1
  have key : ∀ (b : List Run) (s : Int), (gM b s n = true ∧ good b = true ∧ wsum b = s ∧ sum b = n) ∨ (gM b s n = false ∧ (good b = false ∨ (good b = true ∧ sum b ≠ n) ∨ (good b = true ∧ sum b = n ∧ wsum b ≠ s))) := fun b s => by
    cases hg : good b with
    | false => exact .inr ⟨by simp [gM, hg], .inl rfl⟩
    | true =>
      by_cases h2 : sum b = n
      · by_cases h1 : wsum b = s
        · exact .inl ⟨by simp [gM, hg, h1, h2], rfl, h1, h2⟩
        · exact .inr ⟨by simp [gM, h1], .inr (.inr ⟨rfl, h2, h1⟩)⟩
      · exact .inr ⟨by simp [gM, h2], .inr (.inl ⟨rfl, h2⟩)⟩
  have k0 := key b0 s0
  have k1 := key b1 s1
  clear key wide
  unfold p48 r48_0 r48_1 r48_2 r48_3 r48_11
  by_cases hm : 1 ≤ m ∧ m ≤ 2
  · by_cases hnn : 1 ≤ n ∧ n ≤ 1099511627776
    · generalize good b0 = x0 at c2 c4 c6 k0
      generalize good b1 = x1 at c3 c5 c7 k1
      generalize sum b0 = g0 at c4 k0
      generalize sum b1 = g1 at c5 k1
      generalize wsum b0 = w0 at c6 e0 k0
      generalize wsum b1 = w1 at c7 e1 k1
      rcases k0 with ⟨p1, rfl, rfl, rfl⟩ | ⟨p1, p2⟩
      · rw [if_pos rfl] at c4
        have c6' := c6 rfl
        rw [decide_eq_true rfl] at e0
        repeat' (first | refine w_seq ?_ | refine w_ops ?_ | refine st_nil ?_ | refine th_n ?_ | refine w_block ?_ | refine w_skip ?_ | refine w_false rfl ?_ | refine g_yes rfl ?_ | refine mv_c rfl ?_ | refine pick_f rfl rfl ?_ | refine lss_f rfl rfl (by omega) ?_ | refine gtr_f rfl rfl (by omega) ?_ | refine box_ rfl rfl rfl (fun u => ?_) | refine load_ptr rfl (by decide) rfl (Nat.le_of_ble_eq_true rfl) rfl ?_ | refine fad_ptr rfl rfl rfl ?_)
        refine w_loop ?_
        unfold b48_0 r48_4 r48_5 r48_6 r48_7 r48_8 r48_9 r48_10
        repeat' (first | refine call1 rfl c2 ?_ | refine call1 rfl c4 ?_ | refine call1 rfl c6' ?_ | refine call1 rfl c8 ?_ | refine eqs_f rfl rfl e0 ?_ | refine w_seq ?_ | refine w_ops ?_ | refine w_opsD0 rfl ?_ | refine st_nil ?_ | refine th_n ?_ | refine bk_n ?_ | refine w_block ?_ | refine w_skip ?_ | refine w_true rfl ?_ | refine w_false rfl ?_ | refine g_yes rfl ?_ | refine mv_c rfl ?_ | refine pick_f rfl rfl ?_ | refine lss_t rfl rfl (by omega) ?_ | refine geq_f rfl rfl (by omega) ?_ | refine neq_f rfl rfl (by omega) ?_ | refine not_ rfl ?_ | refine add_in rfl rfl (by omega) ?_ | refine load_ptr rfl (by decide) rfl (Nat.le_of_ble_eq_true rfl) rfl ?_ | refine fad_ptr rfl rfl rfl ?_ | refine iaA_ptr rfl rfl rfl (by omega) rfl ?_)
        refine w_loop ?_
        by_cases hm2 : m = 2
        · rcases k1 with ⟨t1, rfl, rfl, rfl⟩ | ⟨t1, t2⟩
          · rw [if_pos rfl] at c5
            have c7' := c7 rfl
            rw [decide_eq_true rfl] at e1
            rw [goodC_iff.mpr ⟨hm, hnn, p1, by rw [if_pos hm2]; exact t1⟩]
            repeat' (first | refine call1 rfl c3 ?_ | refine call1 rfl c5 ?_ | refine call1 rfl c7' ?_ | refine call1 rfl c9 ?_ | refine eqs_f rfl rfl e1 ?_ | refine w_seq ?_ | refine w_ops ?_ | refine w_opsD0 rfl ?_ | refine st_nil ?_ | refine th_n ?_ | refine bk_n ?_ | refine w_block ?_ | refine w_skip ?_ | refine w_true rfl ?_ | refine w_false rfl ?_ | refine g_yes rfl ?_ | refine mv_c rfl ?_ | refine pick_f rfl rfl ?_ | refine lss_t rfl rfl (by omega) ?_ | refine geq_f rfl rfl (by omega) ?_ | refine neq_f rfl rfl (by omega) ?_ | refine not_ rfl ?_ | refine add_in rfl rfl (by omega) ?_ | refine load_ptr rfl (by decide) rfl (Nat.le_of_ble_eq_true rfl) rfl ?_ | refine fad_ptr rfl rfl rfl ?_ | refine iaA_ptr rfl rfl rfl (by omega) rfl ?_)
            refine w_loop ?_
            repeat' (first | refine w_seq ?_ | refine w_ops ?_ | refine st_nil ?_ | refine th_n ?_ | refine th_x ?_ | refine bk_x ?_ | refine w_exit ?_ | refine w_ret ?_ | refine w_false rfl ?_ | refine mv_c rfl ?_ | refine lss_f rfl rfl (by omega) ?_)
            exact fin_r rfl rfl
          · have e : goodC m ⟨g0, w0, s1, b0, b1⟩ = false := by
              rw [Bool.eq_false_iff]; intro h
              have := (goodC_iff.mp h).2.2.2
              rw [if_pos hm2] at this
              rw [this] at t1; cases t1
            rw [e]
            rcases t2 with rfl | ⟨rfl, t2⟩ | ⟨rfl, rfl, t2⟩
            · repeat' (first | refine call1 rfl c3 ?_ | refine w_seq ?_ | refine w_ops ?_ | refine w_opsD0 rfl ?_ | refine st_nil ?_ | refine th_n ?_ | refine th_r ?_ | refine bk_r ?_ | refine w_block ?_ | refine w_skip ?_ | refine w_ret ?_ | refine w_true rfl ?_ | refine w_false rfl ?_ | refine g_no rfl ?_ | refine mv_c rfl ?_ | refine pick_t rfl rfl ?_ | refine lss_t rfl rfl (by omega) ?_ | refine geq_f rfl rfl (by omega) ?_ | refine not_ rfl ?_ | refine load_ptr rfl (by decide) rfl (Nat.le_of_ble_eq_true rfl) rfl ?_ | refine fad_ptr rfl rfl rfl ?_ | refine iaA_ptr rfl rfl rfl (by omega) rfl ?_)
              exact fin_r rfl rfl
            · rw [if_pos rfl] at c5
              repeat' (first | refine call1 rfl c3 ?_ | refine call1 rfl c5 ?_ | refine w_seq ?_ | refine w_ops ?_ | refine w_opsD0 rfl ?_ | refine st_nil ?_ | refine th_n ?_ | refine th_r ?_ | refine bk_r ?_ | refine w_block ?_ | refine w_skip ?_ | refine w_ret ?_ | refine w_true rfl ?_ | refine w_false rfl ?_ | refine g_yes rfl ?_ | refine g_no rfl ?_ | refine mv_c rfl ?_ | refine pick_t rfl rfl ?_ | refine pick_f rfl rfl ?_ | refine lss_t rfl rfl (by omega) ?_ | refine geq_f rfl rfl (by omega) ?_ | refine neq_t rfl rfl (by omega) ?_ | refine not_ rfl ?_ | refine load_ptr rfl (by decide) rfl (Nat.le_of_ble_eq_true rfl) rfl ?_ | refine fad_ptr rfl rfl rfl ?_ | refine iaA_ptr rfl rfl rfl (by omega) rfl ?_)
              exact fin_r rfl rfl
            · rw [if_pos rfl] at c5
              have c7' := c7 rfl
              rw [decide_eq_false t2] at e1
              repeat' (first | refine call1 rfl c3 ?_ | refine call1 rfl c5 ?_ | refine call1 rfl c7' ?_ | refine call1 rfl c9 ?_ | refine eqs_f rfl rfl e1 ?_ | refine w_seq ?_ | refine w_ops ?_ | refine w_opsD0 rfl ?_ | refine st_nil ?_ | refine th_n ?_ | refine th_r ?_ | refine bk_r ?_ | refine w_block ?_ | refine w_skip ?_ | refine w_ret ?_ | refine w_true rfl ?_ | refine w_false rfl ?_ | refine g_yes rfl ?_ | refine mv_c rfl ?_ | refine pick_f rfl rfl ?_ | refine lss_t rfl rfl (by omega) ?_ | refine geq_f rfl rfl (by omega) ?_ | refine neq_f rfl rfl (by omega) ?_ | refine not_ rfl ?_ | refine load_ptr rfl (by decide) rfl (Nat.le_of_ble_eq_true rfl) rfl ?_ | refine fad_ptr rfl rfl rfl ?_ | refine iaA_ptr rfl rfl rfl (by omega) rfl ?_)
              exact fin_r rfl rfl
        · by_cases h1 : s1 = 0
          · cases b1 with
            | nil =>
              rw [goodC_iff.mpr ⟨hm, hnn, p1, by rw [if_neg hm2]; exact ⟨h1, rfl⟩⟩]
              repeat' (first | refine len_sl (es := []) rfl rfl ?_ | refine w_seq ?_ | refine w_ops ?_ | refine st_nil ?_ | refine th_n ?_ | refine bk_n ?_ | refine w_block ?_ | refine w_skip ?_ | refine w_true rfl ?_ | refine w_false rfl ?_ | refine g_yes rfl ?_ | refine mv_c rfl ?_ | refine pick_f rfl rfl ?_ | refine lss_t rfl rfl (by omega) ?_ | refine gtr_ rfl rfl ?_ | refine geq_t rfl rfl (by omega) ?_ | refine neq_f rfl rfl (by omega) ?_ | refine add_in rfl rfl (by omega) ?_ | refine load_ptr rfl (by decide) rfl (Nat.le_of_ble_eq_true rfl) rfl ?_ | refine fad_ptr rfl rfl rfl ?_ | refine iaA_ptr rfl rfl rfl (by omega) rfl ?_)
              refine w_loop ?_
              repeat' (first | refine w_seq ?_ | refine w_ops ?_ | refine st_nil ?_ | refine th_n ?_ | refine th_x ?_ | refine bk_x ?_ | refine w_exit ?_ | refine w_ret ?_ | refine w_false rfl ?_ | refine mv_c rfl ?_ | refine lss_f rfl rfl (by omega) ?_)
              exact fin_r rfl rfl
            | cons x b1 =>
              have e : goodC m ⟨g0, w0, s1, b0, x :: b1⟩ = false := by
                rw [Bool.eq_false_iff]; intro h
                have := (goodC_iff.mp h).2.2.2
                rw [if_neg hm2] at this
                cases this.2
              rw [e]
              have hp : 0 < (x :: b1).length := by simp
              repeat' (first | refine len_sl rfl (List.length_map _) ?_ | refine w_seq ?_ | refine w_ops ?_ | refine st_nil ?_ | refine th_n ?_ | refine th_r ?_ | refine bk_r ?_ | refine w_block ?_ | refine w_skip ?_ | refine w_ret ?_ | refine w_true rfl ?_ | refine g_yes rfl ?_ | refine mv_c rfl ?_ | refine pick_f rfl rfl ?_ | refine lss_t rfl rfl (by omega) ?_ | refine gtr_t rfl rfl (by omega) ?_ | refine geq_t rfl rfl (by omega) ?_ | refine neq_f rfl rfl (by omega) ?_ | refine load_ptr rfl (by decide) rfl (Nat.le_of_ble_eq_true rfl) rfl ?_ | refine fad_ptr rfl rfl rfl ?_ | refine iaA_ptr rfl rfl rfl (by omega) rfl ?_)
              exact fin_r rfl rfl
          · have e : goodC m ⟨g0, w0, s1, b0, b1⟩ = false := by
              rw [Bool.eq_false_iff]; intro h
              have := (goodC_iff.mp h).2.2.2
              rw [if_neg hm2] at this
              exact h1 this.1
            rw [e]
            repeat' (first | refine w_seq ?_ | refine w_ops ?_ | refine st_nil ?_ | refine th_n ?_ | refine th_r ?_ | refine bk_r ?_ | refine w_block ?_ | refine w_skip ?_ | refine w_ret ?_ | refine w_true rfl ?_ | refine g_no rfl ?_ | refine mv_c rfl ?_ | refine pick_t rfl rfl ?_ | refine lss_t rfl rfl (by omega) ?_ | refine geq_t rfl rfl (by omega) ?_ | refine neq_t rfl rfl (by omega) ?_ | refine load_ptr rfl (by decide) rfl (Nat.le_of_ble_eq_true rfl) rfl ?_ | refine fad_ptr rfl rfl rfl ?_ | refine iaA_ptr rfl rfl rfl (by omega) rfl ?_)
            exact fin_r rfl rfl
      · have e : goodC m ⟨n, s0, s1, b0, b1⟩ = false := by
          rw [Bool.eq_false_iff]; intro h
          have := (goodC_iff.mp h).2.2.1
          simp only at this
          rw [this] at p1; cases p1
        rw [e]
        repeat' (first | refine w_seq ?_ | refine w_ops ?_ | refine st_nil ?_ | refine th_n ?_ | refine w_block ?_ | refine w_skip ?_ | refine w_false rfl ?_ | refine g_yes rfl ?_ | refine mv_c rfl ?_ | refine pick_f rfl rfl ?_ | refine lss_f rfl rfl (by omega) ?_ | refine gtr_f rfl rfl (by omega) ?_ | refine box_ rfl rfl rfl (fun u => ?_) | refine load_ptr rfl (by decide) rfl (Nat.le_of_ble_eq_true rfl) rfl ?_ | refine fad_ptr rfl rfl rfl ?_)
        refine w_loop ?_
        unfold b48_0 r48_4 r48_5 r48_6 r48_7 r48_8 r48_9 r48_10
        rcases p2 with rfl | ⟨rfl, p2⟩ | ⟨rfl, rfl, p2⟩
        · repeat' (first | refine call1 rfl c2 ?_ | refine w_seq ?_ | refine w_ops ?_ | refine w_opsD0 rfl ?_ | refine st_nil ?_ | refine th_n ?_ | refine th_r ?_ | refine bk_r ?_ | refine w_block ?_ | refine w_skip ?_ | refine w_ret ?_ | refine w_true rfl ?_ | refine w_false rfl ?_ | refine g_no rfl ?_ | refine mv_c rfl ?_ | refine pick_t rfl rfl ?_ | refine lss_t rfl rfl (by omega) ?_ | refine geq_f rfl rfl (by omega) ?_ | refine not_ rfl ?_ | refine load_ptr rfl (by decide) rfl (Nat.le_of_ble_eq_true rfl) rfl ?_ | refine fad_ptr rfl rfl rfl ?_ | refine iaA_ptr rfl rfl rfl (by omega) rfl ?_)
          exact fin_r rfl rfl
        · rw [if_pos rfl] at c4
          repeat' (first | refine call1 rfl c2 ?_ | refine call1 rfl c4 ?_ | refine w_seq ?_ | refine w_ops ?_ | refine w_opsD0 rfl ?_ | refine st_nil ?_ | refine th_n ?_ | refine th_r ?_ | refine bk_r ?_ | refine w_block ?_ | refine w_skip ?_ | refine w_ret ?_ | refine w_true rfl ?_ | refine w_false rfl ?_ | refine g_yes rfl ?_ | refine g_no rfl ?_ | refine mv_c rfl ?_ | refine pick_t rfl rfl ?_ | refine pick_f rfl rfl ?_ | refine lss_t rfl rfl (by omega) ?_ | refine geq_f rfl rfl (by omega) ?_ | refine neq_t rfl rfl (by omega) ?_ | refine not_ rfl ?_ | refine load_ptr rfl (by decide) rfl (Nat.le_of_ble_eq_true rfl) rfl ?_ | refine fad_ptr rfl rfl rfl ?_ | refine iaA_ptr rfl rfl rfl (by omega) rfl ?_)
          exact fin_r rfl rfl
        · rw [if_pos rfl] at c4
          have c6' := c6 rfl
          rw [decide_eq_false p2] at e0
          repeat' (first | refine call1 rfl c2 ?_ | refine call1 rfl c4 ?_ | refine call1 rfl c6' ?_ | refine call1 rfl c8 ?_ | refine eqs_f rfl rfl e0 ?_ | refine w_seq ?_ | refine w_ops ?_ | refine w_opsD0 rfl ?_ | refine st_nil ?_ | refine th_n ?_ | refine th_r ?_ | refine bk_r ?_ | refine w_block ?_ | refine w_skip ?_ | refine w_ret ?_ | refine w_true rfl ?_ | refine w_false rfl ?_ | refine g_yes rfl ?_ | refine mv_c rfl ?_ | refine pick_f rfl rfl ?_ | refine lss_t rfl rfl (by omega) ?_ | refine geq_f rfl rfl (by omega) ?_ | refine neq_f rfl rfl (by omega) ?_ | refine not_ rfl ?_ | refine load_ptr rfl (by decide) rfl (Nat.le_of_ble_eq_true rfl) rfl ?_ | refine fad_ptr rfl rfl rfl ?_ | refine iaA_ptr rfl rfl rfl (by omega) rfl ?_)
          exact fin_r rfl rfl
    · have e : goodC m ⟨n, s0, s1, b0, b1⟩ = false := by
        rw [Bool.eq_false_iff]; intro h
        exact hnn (goodC_iff.mp h).2.1
      rw [e]
      by_cases h1 : n < 1
      · repeat' (first | refine w_seq ?_ | refine w_ops ?_ | refine st_nil ?_ | refine th_n ?_ | refine th_r ?_ | refine w_ret ?_ | refine w_true rfl ?_ | refine g_yes rfl ?_ | refine g_no rfl ?_ | refine mv_c rfl ?_ | refine pick_t rfl rfl ?_ | refine pick_f rfl rfl ?_ | refine lss_t rfl rfl (by omega) ?_ | refine lss_f rfl rfl (by omega) ?_ | refine gtr_f rfl rfl (by omega) ?_ | refine box_ rfl rfl rfl (fun u => ?_) | refine load_ptr rfl (by decide) rfl (Nat.le_of_ble_eq_true rfl) rfl ?_ | refine fad_ptr rfl rfl rfl ?_)
        exact fin_r rfl rfl
      · repeat' (first | refine w_seq ?_ | refine w_ops ?_ | refine st_nil ?_ | refine th_n ?_ | refine th_r ?_ | refine w_ret ?_ | refine w_true rfl ?_ | refine g_yes rfl ?_ | refine mv_c rfl ?_ | refine pick_f rfl rfl ?_ | refine lss_f rfl rfl (by omega) ?_ | refine gtr_t rfl rfl (by omega) ?_ | refine gtr_f rfl rfl (by omega) ?_ | refine box_ rfl rfl rfl (fun u => ?_) | refine load_ptr rfl (by decide) rfl (Nat.le_of_ble_eq_true rfl) rfl ?_ | refine fad_ptr rfl rfl rfl ?_)
        exact fin_r rfl rfl
  · have e : goodC m ⟨n, s0, s1, b0, b1⟩ = false := by
      rw [Bool.eq_false_iff]; intro h
      exact hm (goodC_iff.mp h).1
    rw [e]
    by_cases h1 : m < 1
    · repeat' (first | refine w_seq ?_ | refine w_ops ?_ | refine st_nil ?_ | refine th_n ?_ | refine th_r ?_ | refine w_ret ?_ | refine w_true rfl ?_ | refine g_no rfl ?_ | refine mv_c rfl ?_ | refine pick_t rfl rfl ?_ | refine lss_t rfl rfl (by omega) ?_ | refine box_ rfl rfl rfl (fun u => ?_))
      exact fin_r rfl rfl
    · repeat' (first | refine w_seq ?_ | refine w_ops ?_ | refine st_nil ?_ | refine th_n ?_ | refine th_r ?_ | refine w_ret ?_ | refine w_true rfl ?_ | refine g_yes rfl ?_ | refine g_no rfl ?_ | refine mv_c rfl ?_ | refine pick_t rfl rfl ?_ | refine pick_f rfl rfl ?_ | refine lss_f rfl rfl (by omega) ?_ | refine gtr_t rfl rfl (by omega) ?_ | refine box_ rfl rfl rfl (fun u => ?_))
      exact fin_r rfl rfl
end Go.Proofs.Ytcmejdkjfekoeaa
namespace Go.Proofs.Ytcmejdkjfekoeaa
open Go.Pl Go.Bag
set_option maxHeartbeats 16000000
set_option maxRecDepth 100000
theorem joinC_no {m : Int} {a b : Cell} (h : ¬ (goodC m a = true ∧ goodC m b = true ∧ a.n + b.n ≤ 1099511627776 ∧ in64 (a.s0 + b.s0) ∧ (m = 2 → in64 (a.s1 + b.s1)))) : joinC m a b = (zeroC, false) := by
  unfold joinC; rw [if_neg h]
theorem C_cJoin (m : Int) (a b : Cell) (ha : inC 1000000 a) (hb : inC 1000000 b) : PCallG Try.prog 51 [.c (.int .i64 m), .c (encCell a), .c (encCell b)] (.c (.tup [encCell (joinC m a b).1, .bool (joinC m a b).2])) [] := by
  have c1 := C_cGood m a ha
  have c2 := C_cGood m b hb
  obtain ⟨n, s0, s1, b0, b1⟩ := a
  obtain ⟨k, t0, t1, d0, d1⟩ := b
  obtain ⟨hn, hs0, hs1, hr0, hr1, hl0, hl1⟩ := ha
  obtain ⟨in', it0, it1, ir0, ir1, il0, il1⟩ := hb
  simp only at hn hs0 hs1 hr0 hr1 hl0 hl1 in' it0 it1 ir0 ir1 il0 il1
  obtain ⟨hn1, hn2⟩ := hn
  obtain ⟨in1, in2⟩ := in'
  have c3 := C_Join b0 d0 (by omega) (by omega)
  have c4 := C_Join b1 d1 (by omega) (by omega)
  have c5 := C_Add s0 t0 hs0 it0
  have c6 := C_Add s1 t1 hs1 it1
  show PCallG _ 51 [.c (.int .i64 m), .c (.agg [.int .i64 n, .int .i64 s0, .int .i64 s1, encL b0, encL b1]), .c (.agg [.int .i64 k, .int .i64 t0, .int .i64 t1, encL d0, encL d1])] _ _
  unfold encCell encC at c1 c2
  refine pcallF Try.func51 c51 rfl ?_
  unfold p51 r51_0 r51_1 r51_2 r51_3 r51_4 r51_13
  cases ga : goodC m ⟨n, s0, s1, b0, b1⟩ with
  | false =>
    rw [ga] at c1
    rw [joinC_no (m := m) (a := ⟨n, s0, s1, b0, b1⟩) (b := ⟨k, t0, t1, d0, d1⟩) (fun h => by rw [ga] at h; cases h.1)]
    repeat' (first | refine call2 rfl rfl c1 ?_ | refine w_seq ?_ | refine w_ops ?_ | refine st_nil ?_ | refine th_n ?_ | refine th_r ?_ | refine w_ret ?_ | refine w_true rfl ?_ | refine g_no rfl ?_ | refine mv_c rfl ?_ | refine pick_t rfl rfl ?_ | refine not_ rfl ?_ | refine alloc_ (fun u => ?_) | refine box_ rfl rfl rfl (fun u => ?_) | refine build_ rfl rfl ?_ | refine load_ptr rfl (by decide) rfl (Nat.le_of_ble_eq_true rfl) rfl ?_ | refine store_ptr rfl rfl (by decide) rfl rfl (Nat.le_of_ble_eq_true rfl) rfl ?_)
    exact fin_r (rv_cell rfl rfl rfl rfl (rv_t rfl rv_nil)) rfl
  | true =>
    rw [ga] at c1
    cases gb : goodC m ⟨k, t0, t1, d0, d1⟩ with
    | false =>
      rw [gb] at c2
      rw [joinC_no (m := m) (a := ⟨n, s0, s1, b0, b1⟩) (b := ⟨k, t0, t1, d0, d1⟩) (fun h => by rw [gb] at h; cases h.2.1)]
      repeat' (first | refine call2 rfl rfl c1 ?_ | refine call2 rfl rfl c2 ?_ | refine w_seq ?_ | refine w_ops ?_ | refine st_nil ?_ | refine th_n ?_ | refine th_r ?_ | refine w_ret ?_ | refine w_true rfl ?_ | refine g_yes rfl ?_ | refine g_no rfl ?_ | refine mv_c rfl ?_ | refine pick_t rfl rfl ?_ | refine pick_f rfl rfl ?_ | refine not_ rfl ?_ | refine alloc_ (fun u => ?_) | refine box_ rfl rfl rfl (fun u => ?_) | refine build_ rfl rfl ?_ | refine load_ptr rfl (by decide) rfl (Nat.le_of_ble_eq_true rfl) rfl ?_ | refine store_ptr rfl rfl (by decide) rfl rfl (Nat.le_of_ble_eq_true rfl) rfl ?_)
      exact fin_r (rv_cell rfl rfl rfl rfl (rv_t rfl rv_nil)) rfl
    | true =>
      rw [gb] at c2
      obtain ⟨hm, ⟨g1, g2⟩, g3, g4⟩ := goodC_iff.mp ga
      obtain ⟨_, ⟨i1, i2⟩, i3, i4⟩ := goodC_iff.mp gb
      simp only at g1 g2 g3 g4 i1 i2 i3 i4
      obtain ⟨p1, p2, p3⟩ := gM_iff.mp g3
      obtain ⟨q1, q2, q3⟩ := gM_iff.mp i3
      by_cases hs : n + k ≤ 1099511627776
      · have j0 := (join_sum p1 q1 (by omega)).2.2.2
        rw [j0] at c3
        by_cases f0 : I64 (s0 + t0)
        · rw [if_pos f0] at c5
          by_cases hm2 : m = 2
          · rw [if_pos hm2] at g4 i4
            obtain ⟨p4, p5, p6⟩ := gM_iff.mp g4
            obtain ⟨q4, q5, q6⟩ := gM_iff.mp i4
            have j1 := (join_sum p4 q4 (by omega)).2.2.2
            rw [j1] at c4
            by_cases f1 : I64 (s1 + t1)
            · rw [if_pos f1] at c6
              rw [show joinC m ⟨n, s0, s1, b0, b1⟩ ⟨k, t0, t1, d0, d1⟩ = (⟨n + k, s0 + t0, s1 + t1, (join b0 d0).1, (join b1 d1).1⟩, true) by
                unfold joinC; rw [if_pos ⟨ga, gb, hs, f0, fun _ => f1⟩]; simp [hm2]]
              generalize (join b0 d0).1 = o0 at c3
              generalize (join b1 d1).1 = o1 at c4
              repeat' (first | refine call2 rfl rfl c1 ?_ | refine call2 rfl rfl c2 ?_ | refine w_seq ?_ | refine w_ops ?_ | refine st_nil ?_ | refine th_n ?_ | refine w_block ?_ | refine w_skip ?_ | refine w_false rfl ?_ | refine g_yes rfl ?_ | refine mv_c rfl ?_ | refine pick_f rfl rfl ?_ | refine gtr_f rfl rfl (by omega) ?_ | refine not_ rfl ?_ | refine add_in rfl rfl (by omega) ?_ | refine sub_in rfl rfl (by omega) ?_ | refine alloc_ (fun u => ?_) | refine box_ rfl rfl rfl (fun u => ?_) | refine build_ rfl rfl ?_ | refine load_ptr rfl (by decide) rfl (Nat.le_of_ble_eq_true rfl) rfl ?_ | refine store_ptr rfl rfl (by decide) rfl rfl (Nat.le_of_ble_eq_true rfl) rfl ?_ | refine fad_ptr rfl rfl rfl ?_)
              refine w_loop ?_
              unfold b51_0 r51_5 r51_6 r51_7 r51_8 r51_9 r51_10 r51_11 r51_12
              repeat' (first | refine call2 rfl rfl c3 ?_ | refine call2 rfl rfl c5 ?_ | refine w_seq ?_ | refine w_ops ?_ | refine w_opsD0 rfl ?_ | refine st_nil ?_ | refine th_n ?_ | refine bk_n ?_ | refine w_block ?_ | refine w_skip ?_ | refine w_true rfl ?_ | refine w_false rfl ?_ | refine g_yes rfl ?_ | refine mv_c rfl ?_ | refine pick_f rfl rfl ?_ | refine lss_t rfl rfl (by omega) ?_ | refine not_ rfl ?_ | refine add_in rfl rfl (by omega) ?_ | refine load_ptr rfl (by decide) rfl (Nat.le_of_ble_eq_true rfl) rfl ?_ | refine store_ptr rfl rfl (by decide) rfl rfl (Nat.le_of_ble_eq_true rfl) rfl ?_ | refine fad_ptr rfl rfl rfl ?_ | refine iaA_ptr rfl rfl rfl (by omega) rfl ?_ | refine ext_ rfl rfl ?_)
              refine w_loop ?_
              repeat' (first | refine call2 rfl rfl c4 ?_ | refine call2 rfl rfl c6 ?_ | refine w_seq ?_ | refine w_ops ?_ | refine w_opsD0 rfl ?_ | refine st_nil ?_ | refine th_n ?_ | refine bk_n ?_ | refine w_block ?_ | refine w_skip ?_ | refine w_true rfl ?_ | refine w_false rfl ?_ | refine g_yes rfl ?_ | refine mv_c rfl ?_ | refine pick_f rfl rfl ?_ | refine lss_t rfl rfl (by omega) ?_ | refine not_ rfl ?_ | refine add_in rfl rfl (by omega) ?_ | refine load_ptr rfl (by decide) rfl (Nat.le_of_ble_eq_true rfl) rfl ?_ | refine store_ptr rfl rfl (by decide) rfl rfl (Nat.le_of_ble_eq_true rfl) rfl ?_ | refine fad_ptr rfl rfl rfl ?_ | refine iaA_ptr rfl rfl rfl (by omega) rfl ?_ | refine ext_ rfl rfl ?_)
              refine w_loop ?_
              repeat' (first | refine w_seq ?_ | refine w_ops ?_ | refine st_nil ?_ | refine th_n ?_ | refine th_x ?_ | refine bk_x ?_ | refine w_exit ?_ | refine w_ret ?_ | refine w_false rfl ?_ | refine mv_c rfl ?_ | refine lss_f rfl rfl (by omega) ?_ | refine load_ptr rfl (by decide) rfl (Nat.le_of_ble_eq_true rfl) rfl ?_ | refine store_ptr rfl rfl (by decide) rfl rfl (Nat.le_of_ble_eq_true rfl) rfl ?_)
              exact fin_r (rv_cell rfl rfl rfl rfl (rv_t rfl rv_nil)) rfl
            · rw [if_neg f1] at c6
              rw [joinC_no (m := m) (a := ⟨n, s0, s1, b0, b1⟩) (b := ⟨k, t0, t1, d0, d1⟩) (fun h => f1 (h.2.2.2.2 hm2))]
              generalize (join b0 d0).1 = o0 at c3
              generalize (join b1 d1).1 = o1 at c4
              repeat' (first | refine call2 rfl rfl c1 ?_ | refine call2 rfl rfl c2 ?_ | refine w_seq ?_ | refine w_ops ?_ | refine st_nil ?_ | refine th_n ?_ | refine w_block ?_ | refine w_skip ?_ | refine w_false rfl ?_ | refine g_yes rfl ?_ | refine mv_c rfl ?_ | refine pick_f rfl rfl ?_ | refine gtr_f rfl rfl (by omega) ?_ | refine not_ rfl ?_ | refine add_in rfl rfl (by omega) ?_ | refine sub_in rfl rfl (by omega) ?_ | refine alloc_ (fun u => ?_) | refine box_ rfl rfl rfl (fun u => ?_) | refine build_ rfl rfl ?_ | refine load_ptr rfl (by decide) rfl (Nat.le_of_ble_eq_true rfl) rfl ?_ | refine store_ptr rfl rfl (by decide) rfl rfl (Nat.le_of_ble_eq_true rfl) rfl ?_ | refine fad_ptr rfl rfl rfl ?_)
              refine w_loop ?_
              unfold b51_0 r51_5 r51_6 r51_7 r51_8 r51_9 r51_10 r51_11 r51_12
              repeat' (first | refine call2 rfl rfl c3 ?_ | refine call2 rfl rfl c5 ?_ | refine w_seq ?_ | refine w_ops ?_ | refine w_opsD0 rfl ?_ | refine st_nil ?_ | refine th_n ?_ | refine bk_n ?_ | refine w_block ?_ | refine w_skip ?_ | refine w_true rfl ?_ | refine w_false rfl ?_ | refine g_yes rfl ?_ | refine mv_c rfl ?_ | refine pick_f rfl rfl ?_ | refine lss_t rfl rfl (by omega) ?_ | refine not_ rfl ?_ | refine add_in rfl rfl (by omega) ?_ | refine load_ptr rfl (by decide) rfl (Nat.le_of_ble_eq_true rfl) rfl ?_ | refine store_ptr rfl rfl (by decide) rfl rfl (Nat.le_of_ble_eq_true rfl) rfl ?_ | refine fad_ptr rfl rfl rfl ?_ | refine iaA_ptr rfl rfl rfl (by omega) rfl ?_ | refine ext_ rfl rfl ?_)
              refine w_loop ?_
              repeat' (first | refine call2 rfl rfl c4 ?_ | refine call2 rfl rfl c6 ?_ | refine w_seq ?_ | refine w_ops ?_ | refine w_opsD0 rfl ?_ | refine st_nil ?_ | refine th_n ?_ | refine th_r ?_ | refine bk_r ?_ | refine w_block ?_ | refine w_skip ?_ | refine w_ret ?_ | refine w_true rfl ?_ | refine g_yes rfl ?_ | refine mv_c rfl ?_ | refine pick_f rfl rfl ?_ | refine lss_t rfl rfl (by omega) ?_ | refine not_ rfl ?_ | refine build_ rfl rfl ?_ | refine load_ptr rfl (by decide) rfl (Nat.le_of_ble_eq_true rfl) rfl ?_ | refine store_ptr rfl rfl (by decide) rfl rfl (Nat.le_of_ble_eq_true rfl) rfl ?_ | refine fad_ptr rfl rfl rfl ?_ | refine iaA_ptr rfl rfl rfl (by omega) rfl ?_ | refine ext_ rfl rfl ?_)
              exact fin_r (rv_cell rfl rfl rfl rfl (rv_t rfl rv_nil)) rfl
          · rw [show joinC m ⟨n, s0, s1, b0, b1⟩ ⟨k, t0, t1, d0, d1⟩ = (⟨n + k, s0 + t0, 0, (join b0 d0).1, []⟩, true) by
              unfold joinC; rw [if_pos ⟨ga, gb, hs, f0, fun h => absurd h hm2⟩]; simp [hm2]]
            generalize (join b0 d0).1 = o0 at c3
            repeat' (first | refine call2 rfl rfl c1 ?_ | refine call2 rfl rfl c2 ?_ | refine w_seq ?_ | refine w_ops ?_ | refine st_nil ?_ | refine th_n ?_ | refine w_block ?_ | refine w_skip ?_ | refine w_false rfl ?_ | refine g_yes rfl ?_ | refine mv_c rfl ?_ | refine pick_f rfl rfl ?_ | refine gtr_f rfl rfl (by omega) ?_ | refine not_ rfl ?_ | refine add_in rfl rfl (by omega) ?_ | refine sub_in rfl rfl (by omega) ?_ | refine alloc_ (fun u => ?_) | refine box_ rfl rfl rfl (fun u => ?_) | refine build_ rfl rfl ?_ | refine load_ptr rfl (by decide) rfl (Nat.le_of_ble_eq_true rfl) rfl ?_ | refine store_ptr rfl rfl (by decide) rfl rfl (Nat.le_of_ble_eq_true rfl) rfl ?_ | refine fad_ptr rfl rfl rfl ?_)
            refine w_loop ?_
            unfold b51_0 r51_5 r51_6 r51_7 r51_8 r51_9 r51_10 r51_11 r51_12
            repeat' (first | refine call2 rfl rfl c3 ?_ | refine call2 rfl rfl c5 ?_ | refine w_seq ?_ | refine w_ops ?_ | refine w_opsD0 rfl ?_ | refine st_nil ?_ | refine th_n ?_ | refine bk_n ?_ | refine w_block ?_ | refine w_skip ?_ | refine w_true rfl ?_ | refine w_false rfl ?_ | refine g_yes rfl ?_ | refine mv_c rfl ?_ | refine pick_f rfl rfl ?_ | refine lss_t rfl rfl (by omega) ?_ | refine not_ rfl ?_ | refine add_in rfl rfl (by omega) ?_ | refine load_ptr rfl (by decide) rfl (Nat.le_of_ble_eq_true rfl) rfl ?_ | refine store_ptr rfl rfl (by decide) rfl rfl (Nat.le_of_ble_eq_true rfl) rfl ?_ | refine fad_ptr rfl rfl rfl ?_ | refine iaA_ptr rfl rfl rfl (by omega) rfl ?_ | refine ext_ rfl rfl ?_)
            refine w_loop ?_
            repeat' (first | refine w_seq ?_ | refine w_ops ?_ | refine st_nil ?_ | refine th_n ?_ | refine th_x ?_ | refine bk_x ?_ | refine w_exit ?_ | refine w_ret ?_ | refine w_false rfl ?_ | refine mv_c rfl ?_ | refine lss_f rfl rfl (by omega) ?_ | refine load_ptr rfl (by decide) rfl (Nat.le_of_ble_eq_true rfl) rfl ?_ | refine store_ptr rfl rfl (by decide) rfl rfl (Nat.le_of_ble_eq_true rfl) rfl ?_)
            exact fin_r (rv_cell rfl rfl rfl rfl (rv_t rfl rv_nil)) rfl
        · rw [if_neg f0] at c5
          rw [joinC_no (m := m) (a := ⟨n, s0, s1, b0, b1⟩) (b := ⟨k, t0, t1, d0, d1⟩) (fun h => f0 h.2.2.2.1)]
          generalize (join b0 d0).1 = o0 at c3
          repeat' (first | refine call2 rfl rfl c1 ?_ | refine call2 rfl rfl c2 ?_ | refine w_seq ?_ | refine w_ops ?_ | refine st_nil ?_ | refine th_n ?_ | refine w_block ?_ | refine w_skip ?_ | refine w_false rfl ?_ | refine g_yes rfl ?_ | refine mv_c rfl ?_ | refine pick_f rfl rfl ?_ | refine gtr_f rfl rfl (by omega) ?_ | refine not_ rfl ?_ | refine add_in rfl rfl (by omega) ?_ | refine sub_in rfl rfl (by omega) ?_ | refine alloc_ (fun u => ?_) | refine box_ rfl rfl rfl (fun u => ?_) | refine build_ rfl rfl ?_ | refine load_ptr rfl (by decide) rfl (Nat.le_of_ble_eq_true rfl) rfl ?_ | refine store_ptr rfl rfl (by decide) rfl rfl (Nat.le_of_ble_eq_true rfl) rfl ?_ | refine fad_ptr rfl rfl rfl ?_)
          refine w_loop ?_
          unfold b51_0 r51_5 r51_6 r51_7 r51_8 r51_9 r51_10 r51_11 r51_12
          repeat' (first | refine call2 rfl rfl c3 ?_ | refine call2 rfl rfl c5 ?_ | refine w_seq ?_ | refine w_ops ?_ | refine w_opsD0 rfl ?_ | refine st_nil ?_ | refine th_n ?_ | refine th_r ?_ | refine bk_r ?_ | refine w_block ?_ | refine w_skip ?_ | refine w_ret ?_ | refine w_true rfl ?_ | refine g_yes rfl ?_ | refine mv_c rfl ?_ | refine pick_f rfl rfl ?_ | refine lss_t rfl rfl (by omega) ?_ | refine not_ rfl ?_ | refine build_ rfl rfl ?_ | refine load_ptr rfl (by decide) rfl (Nat.le_of_ble_eq_true rfl) rfl ?_ | refine store_ptr rfl rfl (by decide) rfl rfl (Nat.le_of_ble_eq_true rfl) rfl ?_ | refine fad_ptr rfl rfl rfl ?_ | refine iaA_ptr rfl rfl rfl (by omega) rfl ?_ | refine ext_ rfl rfl ?_)
          exact fin_r (rv_cell rfl rfl rfl rfl (rv_t rfl rv_nil)) rfl
      · rw [joinC_no (m := m) (a := ⟨n, s0, s1, b0, b1⟩) (b := ⟨k, t0, t1, d0, d1⟩) (fun h => hs h.2.2.1)]
        repeat' (first | refine call2 rfl rfl c1 ?_ | refine call2 rfl rfl c2 ?_ | refine w_seq ?_ | refine w_ops ?_ | refine st_nil ?_ | refine th_n ?_ | refine th_r ?_ | refine w_ret ?_ | refine w_true rfl ?_ | refine g_yes rfl ?_ | refine mv_c rfl ?_ | refine pick_f rfl rfl ?_ | refine gtr_t rfl rfl (by omega) ?_ | refine not_ rfl ?_ | refine sub_in rfl rfl (by omega) ?_ | refine alloc_ (fun u => ?_) | refine box_ rfl rfl rfl (fun u => ?_) | refine build_ rfl rfl ?_ | refine load_ptr rfl (by decide) rfl (Nat.le_of_ble_eq_true rfl) rfl ?_ | refine store_ptr rfl rfl (by decide) rfl rfl (Nat.le_of_ble_eq_true rfl) rfl ?_ | refine fad_ptr rfl rfl rfl ?_)
        exact fin_r (rv_cell rfl rfl rfl rfl (rv_t rfl rv_nil)) rfl
end Go.Proofs.Ytcmejdkjfekoeaa
namespace Go.Proofs.Ytcmejdkjfekoeaa
open Go.Pl Go.Bag
set_option maxHeartbeats 16000000
set_option maxRecDepth 100000
theorem ends_of {b : List Run} (hg : good b = true) (hs : 1 ≤ sum b) : endB b false = (lo_ b, true) ∧ endB b true = (hi_ b, true) ∧ ∃ q r, (b.map encR)[(0 : Int).toNat]? = some (encR q) ∧ q.1 = lo_ b ∧ (b.map encR)[((b.length : Int) - 1).toNat]? = some (encR r) ∧ r.1 = hi_ b ∧ 1 ≤ b.length := by
  rcases snoc_cases b with rfl | ⟨k, r, rfl⟩
  · simp [sum] at hs
  · obtain ⟨q, t, hq⟩ : ∃ q t, k ++ [r] = q :: t := by cases k with
      | nil => exact ⟨r, [], rfl⟩
      | cons q t => exact ⟨q, t ++ [r], rfl⟩
    have e1 : lo_ (k ++ [r]) = q.1 := by rw [hq]; rfl
    have e2 : hi_ (k ++ [r]) = r.1 := by simp [hi_]
    refine ⟨?_, ?_, q, r, by rw [hq]; rfl, e1.symm, ?_, e2.symm, by simp⟩
    · simp only [endB, hg, if_true, Bool.false_eq_true, if_false]; rw [hq]; rfl
    · simp only [endB, hg, if_true, e2]; simp
    · have : (((k ++ [r]).length : Int) - 1).toNat = k.length := by simp
      rw [this]; simp
theorem C_cLine (m : Int) (p : Go.Bag.Place) (c : Cell) (hc : inC 1000000 c) : PCallG Try.prog 49 [.c (.int .i64 m), .c (.agg (encP p)), .c (encCell c)] (.c (encLine (lineC m p c))) [] := by
  have c1 := C_cGood m c hc
  obtain ⟨n, s0, s1, b0, b1⟩ := c
  obtain ⟨hn, hs0, hs1, hr0, hr1, hl0, hl1⟩ := hc
  simp only at hn hs0 hs1 hr0 hr1 hl0 hl1
  have c2 := C_Least b0 (by omega)
  have c3 := C_Greatest b0 (by omega)
  have c4 := C_Least b1 (by omega)
  have c5 := C_Greatest b1 (by omega)
  obtain ⟨x0, x1, x2, x3⟩ := p
  show PCallG _ 49 [.c (.int .i64 m), .c (.agg [.int .u8 x0, .int .u8 x1, .int .u8 x2, .int .u8 x3]), .c (.agg [.int .i64 n, .int .i64 s0, .int .i64 s1, encL b0, encL b1])] _ _
  unfold encCell encC at c1
  refine pcallF Try.func49 c49 rfl ?_
  unfold p49 r49_0 r49_1 r49_2 r49_3 r49_4 r49_11
  cases ga : goodC m ⟨n, s0, s1, b0, b1⟩ with
  | false =>
    rw [ga] at c1
    rw [show lineC m ⟨x0, x1, x2, x3⟩ ⟨n, s0, s1, b0, b1⟩ = zeroLn by simp [lineC, ga]]
    repeat' (first | refine call2 rfl rfl c1 ?_ | refine w_seq ?_ | refine w_ops ?_ | refine st_nil ?_ | refine th_n ?_ | refine th_r ?_ | refine w_ret ?_ | refine w_true rfl ?_ | refine mv_c rfl ?_ | refine not_ rfl ?_ | refine alloc_ (fun u => ?_) | refine box_ rfl rfl rfl (fun u => ?_) | refine build_ rfl rfl ?_ | refine load_ptr rfl (by decide) rfl (Nat.le_of_ble_eq_true rfl) rfl ?_ | refine store_ptr rfl rfl (by decide) rfl rfl (Nat.le_of_ble_eq_true rfl) rfl ?_)
    exact fin_r (rv_cell rfl rfl rfl rfl rv_nil) rfl
  | true =>
    rw [ga] at c1
    obtain ⟨hm, ⟨g1, g2⟩, g3, g4⟩ := goodC_iff.mp ga
    simp only at g1 g2 g3 g4
    obtain ⟨p1, p2, p3⟩ := gM_iff.mp g3
    obtain ⟨e1, e2, _⟩ := ends_of p1 (by omega)
    rw [e1] at c2
    rw [e2] at c3
    by_cases hm2 : m = 2
    · rw [if_pos hm2] at g4
      obtain ⟨q1, q2, q3⟩ := gM_iff.mp g4
      obtain ⟨e3, e4, _⟩ := ends_of q1 (by omega)
      rw [e3] at c4
      rw [e4] at c5
      rw [show lineC m ⟨x0, x1, x2, x3⟩ ⟨n, s0, s1, b0, b1⟩ = ⟨x0, x1, x2, x3, n, s0, s1, lo_ b0, lo_ b1, hi_ b0, hi_ b1⟩ by unfold lineC; rw [if_pos ga]; simp [hm2]]
      generalize lo_ b0 = a0 at *
      generalize hi_ b0 = a1 at *
      generalize lo_ b1 = a2 at *
      generalize hi_ b1 = a3 at *
      repeat' (first | refine call2 rfl rfl c1 ?_ | refine w_seq ?_ | refine w_ops ?_ | refine st_nil ?_ | refine th_n ?_ | refine w_block ?_ | refine w_skip ?_ | refine w_false rfl ?_ | refine mv_c rfl ?_ | refine not_ rfl ?_ | refine alloc_ (fun u => ?_) | refine box_ rfl rfl rfl (fun u => ?_) | refine build_ rfl rfl ?_ | refine load_ptr rfl (by decide) rfl (Nat.le_of_ble_eq_true rfl) rfl ?_ | refine store_ptr rfl rfl (by decide) rfl rfl (Nat.le_of_ble_eq_true rfl) rfl ?_ | refine fad_ptr rfl rfl rfl ?_)
      refine w_loop ?_
      unfold b49_0 r49_5 r49_6 r49_7 r49_8 r49_9 r49_10
      repeat' (first | refine call1 rfl c2 ?_ | refine call1 rfl c3 ?_ | refine w_seq ?_ | refine w_ops ?_ | refine st_nil ?_ | refine th_n ?_ | refine bk_n ?_ | refine w_block ?_ | refine w_skip ?_ | refine w_true rfl ?_ | refine mv_c rfl ?_ | refine lss_t rfl rfl (by omega) ?_ | refine add_in rfl rfl (by omega) ?_ | refine load_ptr rfl (by decide) rfl (Nat.le_of_ble_eq_true rfl) rfl ?_ | refine store_ptr rfl rfl (by decide) rfl rfl (Nat.le_of_ble_eq_true rfl) rfl ?_ | refine fad_ptr rfl rfl rfl ?_ | refine iaA_ptr rfl rfl rfl (by omega) rfl ?_ | refine ext_ rfl rfl ?_)
      refine w_loop ?_
      repeat' (first | refine call1 rfl c4 ?_ | refine call1 rfl c5 ?_ | refine w_seq ?_ | refine w_ops ?_ | refine st_nil ?_ | refine th_n ?_ | refine bk_n ?_ | refine w_block ?_ | refine w_skip ?_ | refine w_true rfl ?_ | refine mv_c rfl ?_ | refine lss_t rfl rfl (by omega) ?_ | refine add_in rfl rfl (by omega) ?_ | refine load_ptr rfl (by decide) rfl (Nat.le_of_ble_eq_true rfl) rfl ?_ | refine store_ptr rfl rfl (by decide) rfl rfl (Nat.le_of_ble_eq_true rfl) rfl ?_ | refine fad_ptr rfl rfl rfl ?_ | refine iaA_ptr rfl rfl rfl (by omega) rfl ?_ | refine ext_ rfl rfl ?_)
      refine w_loop ?_
      repeat' (first | refine w_seq ?_ | refine w_ops ?_ | refine st_nil ?_ | refine th_n ?_ | refine th_x ?_ | refine bk_x ?_ | refine w_exit ?_ | refine w_ret ?_ | refine w_false rfl ?_ | refine lss_f rfl rfl (by omega) ?_ | refine load_ptr rfl (by decide) rfl (Nat.le_of_ble_eq_true rfl) rfl ?_ | refine store_ptr rfl rfl (by decide) rfl rfl (Nat.le_of_ble_eq_true rfl) rfl ?_)
      exact fin_r (rv_cell rfl rfl rfl rfl rv_nil) rfl
    · rw [show lineC m ⟨x0, x1, x2, x3⟩ ⟨n, s0, s1, b0, b1⟩ = ⟨x0, x1, x2, x3, n, s0, 0, lo_ b0, 0, hi_ b0, 0⟩ by unfold lineC; rw [if_pos ga]; simp [hm2]]
      generalize lo_ b0 = a0 at *
      generalize hi_ b0 = a1 at *
      repeat' (first | refine call2 rfl rfl c1 ?_ | refine w_seq ?_ | refine w_ops ?_ | refine st_nil ?_ | refine th_n ?_ | refine w_block ?_ | refine w_skip ?_ | refine w_false rfl ?_ | refine mv_c rfl ?_ | refine not_ rfl ?_ | refine alloc_ (fun u => ?_) | refine box_ rfl rfl rfl (fun u => ?_) | refine build_ rfl rfl ?_ | refine load_ptr rfl (by decide) rfl (Nat.le_of_ble_eq_true rfl) rfl ?_ | refine store_ptr rfl rfl (by decide) rfl rfl (Nat.le_of_ble_eq_true rfl) rfl ?_ | refine fad_ptr rfl rfl rfl ?_)
      refine w_loop ?_
      unfold b49_0 r49_5 r49_6 r49_7 r49_8 r49_9 r49_10
      repeat' (first | refine call1 rfl c2 ?_ | refine call1 rfl c3 ?_ | refine w_seq ?_ | refine w_ops ?_ | refine st_nil ?_ | refine th_n ?_ | refine bk_n ?_ | refine w_block ?_ | refine w_skip ?_ | refine w_true rfl ?_ | refine mv_c rfl ?_ | refine lss_t rfl rfl (by omega) ?_ | refine add_in rfl rfl (by omega) ?_ | refine load_ptr rfl (by decide) rfl (Nat.le_of_ble_eq_true rfl) rfl ?_ | refine store_ptr rfl rfl (by decide) rfl rfl (Nat.le_of_ble_eq_true rfl) rfl ?_ | refine fad_ptr rfl rfl rfl ?_ | refine iaA_ptr rfl rfl rfl (by omega) rfl ?_ | refine ext_ rfl rfl ?_)
      refine w_loop ?_
      repeat' (first | refine w_seq ?_ | refine w_ops ?_ | refine st_nil ?_ | refine th_n ?_ | refine th_x ?_ | refine bk_x ?_ | refine w_exit ?_ | refine w_ret ?_ | refine w_false rfl ?_ | refine lss_f rfl rfl (by omega) ?_ | refine load_ptr rfl (by decide) rfl (Nat.le_of_ble_eq_true rfl) rfl ?_ | refine store_ptr rfl rfl (by decide) rfl rfl (Nat.le_of_ble_eq_true rfl) rfl ?_)
      exact fin_r (rv_cell rfl rfl rfl rfl rv_nil) rfl
end Go.Proofs.Ytcmejdkjfekoeaa
namespace Go.Proofs.Ytcmejdkjfekoeaa
open Go.Pl Go.Bag
set_option maxHeartbeats 16000000
theorem same_B (j k : List Run) (hj : j.length ≤ 1000000) (hk : k.length ≤ 1000000) : PCallG Try.prog 29 [.c (encL j), .c (encL k)] (.c (.bool (decide (j = k)))) [] := C_Same j k (by omega) (by omega)
theorem eq2_of (a b c d : Int) : eqC true [LK.i, LK.i] (.agg [.int .i64 a, .int .i64 b]) (.agg [.int .i64 c, .int .i64 d]) = some (decide (a = c ∧ b = d)) := by
  have : eqC true [LK.i, LK.i] (.agg [.int .i64 a, .int .i64 b]) (.agg [.int .i64 c, .int .i64 d]) = some ((a == c) && ((b == d) && true)) := by simp [eqC, shEq]
  rw [this]
  congr 1
  by_cases h1 : a = c <;> by_cases h2 : b = d <;> simp [h1, h2]
theorem C_cSame (a b : Cell) (ha : a.b0.length ≤ 1000000 ∧ a.b1.length ≤ 1000000) (hb : b.b0.length ≤ 1000000 ∧ b.b1.length ≤ 1000000) : PCallG Try.prog 53 [.c (encCell a), .c (encCell b)] (.c (.bool (decide (a = b)))) [] := by
  obtain ⟨n, s0, s1, b0, b1⟩ := a
  obtain ⟨k, t0, t1, d0, d1⟩ := b
  simp only at ha hb
  show PCallG _ 53 [.c (.agg [.int .i64 n, .int .i64 s0, .int .i64 s1, encL b0, encL b1]), .c (.agg [.int .i64 k, .int .i64 t0, .int .i64 t1, encL d0, encL d1])] _ _
  refine pcallF Try.func53 c53 rfl ?_
  have c1 := same_B b0 d0 ha.1 hb.1
  have c2 := same_B b1 d1 ha.2 hb.2
  have e := eq2_of s0 s1 t0 t1
  unfold p53 r53_0 r53_1 r53_2 r53_3 r53_9
  by_cases h1 : n = k
  · by_cases h2 : s0 = t0 ∧ s1 = t1
    · rw [decide_eq_true h2] at e
      repeat' (first | refine eqs_f rfl rfl e ?_ | refine w_seq ?_ | refine w_ops ?_ | refine st_nil ?_ | refine th_n ?_ | refine w_block ?_ | refine w_skip ?_ | refine w_false rfl ?_ | refine g_yes rfl ?_ | refine mv_c rfl ?_ | refine pick_f rfl rfl ?_ | refine neq_f rfl rfl (by omega) ?_ | refine box_ rfl rfl rfl (fun u => ?_) | refine load_ptr rfl (by decide) rfl (Nat.le_of_ble_eq_true rfl) rfl ?_ | refine fad_ptr rfl rfl rfl ?_)
      refine w_loop ?_
      unfold b53_0 r53_4 r53_5 r53_6 r53_7 r53_8
      by_cases h3 : b0 = d0
      · rw [decide_eq_true h3] at c1
        repeat' (first | refine call2 rfl rfl c1 ?_ | refine w_seq ?_ | refine w_ops ?_ | refine w_opsD0 rfl ?_ | refine st_nil ?_ | refine th_n ?_ | refine bk_n ?_ | refine w_block ?_ | refine w_skip ?_ | refine w_true rfl ?_ | refine w_false rfl ?_ | refine mv_c rfl ?_ | refine lss_t rfl rfl (by omega) ?_ | refine not_ rfl ?_ | refine add_in rfl rfl (by omega) ?_ | refine load_ptr rfl (by decide) rfl (Nat.le_of_ble_eq_true rfl) rfl ?_ | refine fad_ptr rfl rfl rfl ?_ | refine iaA_ptr rfl rfl rfl (by omega) rfl ?_)
        refine w_loop ?_
        by_cases h4 : b1 = d1
        · rw [decide_eq_true h4] at c2
          rw [decide_eq_true (by rw [h1, h2.1, h2.2, h3, h4])]
          repeat' (first | refine call2 rfl rfl c2 ?_ | refine w_seq ?_ | refine w_ops ?_ | refine w_opsD0 rfl ?_ | refine st_nil ?_ | refine th_n ?_ | refine bk_n ?_ | refine w_block ?_ | refine w_skip ?_ | refine w_true rfl ?_ | refine w_false rfl ?_ | refine mv_c rfl ?_ | refine lss_t rfl rfl (by omega) ?_ | refine not_ rfl ?_ | refine add_in rfl rfl (by omega) ?_ | refine load_ptr rfl (by decide) rfl (Nat.le_of_ble_eq_true rfl) rfl ?_ | refine fad_ptr rfl rfl rfl ?_ | refine iaA_ptr rfl rfl rfl (by omega) rfl ?_)
          refine w_loop ?_
          repeat' (first | refine w_seq ?_ | refine w_ops ?_ | refine st_nil ?_ | refine th_n ?_ | refine th_x ?_ | refine bk_x ?_ | refine w_exit ?_ | refine w_ret ?_ | refine w_false rfl ?_ | refine mv_c rfl ?_ | refine lss_f rfl rfl (by omega) ?_)
          exact fin_r rfl rfl
        · rw [decide_eq_false h4] at c2
          rw [decide_eq_false (by intro h; exact h4 (congrArg Cell.b1 h))]
          repeat' (first | refine call2 rfl rfl c2 ?_ | refine w_seq ?_ | refine w_ops ?_ | refine w_opsD0 rfl ?_ | refine st_nil ?_ | refine th_n ?_ | refine th_r ?_ | refine bk_r ?_ | refine w_block ?_ | refine w_skip ?_ | refine w_ret ?_ | refine w_true rfl ?_ | refine mv_c rfl ?_ | refine lss_t rfl rfl (by omega) ?_ | refine not_ rfl ?_ | refine load_ptr rfl (by decide) rfl (Nat.le_of_ble_eq_true rfl) rfl ?_ | refine fad_ptr rfl rfl rfl ?_ | refine iaA_ptr rfl rfl rfl (by omega) rfl ?_)
          exact fin_r rfl rfl
      · rw [decide_eq_false h3] at c1
        rw [decide_eq_false (by intro h; exact h3 (congrArg Cell.b0 h))]
        repeat' (first | refine call2 rfl rfl c1 ?_ | refine w_seq ?_ | refine w_ops ?_ | refine w_opsD0 rfl ?_ | refine st_nil ?_ | refine th_n ?_ | refine th_r ?_ | refine bk_r ?_ | refine w_block ?_ | refine w_skip ?_ | refine w_ret ?_ | refine w_true rfl ?_ | refine mv_c rfl ?_ | refine lss_t rfl rfl (by omega) ?_ | refine not_ rfl ?_ | refine load_ptr rfl (by decide) rfl (Nat.le_of_ble_eq_true rfl) rfl ?_ | refine fad_ptr rfl rfl rfl ?_ | refine iaA_ptr rfl rfl rfl (by omega) rfl ?_)
        exact fin_r rfl rfl
    · rw [decide_eq_false h2] at e
      rw [decide_eq_false (by intro h; exact h2 ⟨congrArg Cell.s0 h, congrArg Cell.s1 h⟩)]
      repeat' (first | refine eqs_f rfl rfl e ?_ | refine w_seq ?_ | refine w_ops ?_ | refine st_nil ?_ | refine th_n ?_ | refine th_r ?_ | refine w_ret ?_ | refine w_true rfl ?_ | refine g_yes rfl ?_ | refine mv_c rfl ?_ | refine pick_f rfl rfl ?_ | refine neq_f rfl rfl (by omega) ?_ | refine box_ rfl rfl rfl (fun u => ?_) | refine load_ptr rfl (by decide) rfl (Nat.le_of_ble_eq_true rfl) rfl ?_ | refine fad_ptr rfl rfl rfl ?_)
      exact fin_r rfl rfl
  · rw [decide_eq_false (by intro h; exact h1 (congrArg Cell.n h))]
    repeat' (first | refine w_seq ?_ | refine w_ops ?_ | refine st_nil ?_ | refine th_n ?_ | refine th_r ?_ | refine w_ret ?_ | refine w_true rfl ?_ | refine g_no rfl ?_ | refine mv_c rfl ?_ | refine pick_t rfl rfl ?_ | refine neq_t rfl rfl (by omega) ?_ | refine box_ rfl rfl rfl (fun u => ?_) | refine load_ptr rfl (by decide) rfl (Nat.le_of_ble_eq_true rfl) rfl ?_ | refine fad_ptr rfl rfl rfl ?_)
    exact fin_r rfl rfl
end Go.Proofs.Ytcmejdkjfekoeaa
namespace Go.Proofs.Ytcmejdkjfekoeaa
open Go.Pl Go.Bag
set_option maxHeartbeats 16000000
def inL (l : LineS) : Prop := in64 l.n ∧ in64 l.s0 ∧ in64 l.s1 ∧ in64 l.lo0 ∧ in64 l.lo1 ∧ in64 l.hi0 ∧ in64 l.hi1
def one1 (n : Int) : Int := if 1 > n then 1 else n
def sel (i x y : Int) : Int := if i = 0 then x else y
def aheadC (f i : Int) (a b : LineS) : Int :=
  if f = 1 then cmpI b.n a.n else if i < 0 ∨ 2 ≤ i then 0
  else if f = 2 then cmpI (sel i b.s0 b.s1) (sel i a.s0 a.s1)
  else if f = 3 then cmpI (sel i b.lo0 b.lo1) (sel i a.lo0 a.lo1)
  else if f = 4 then cmpI (sel i b.hi0 b.hi1) (sel i a.hi0 a.hi1)
  else if f = 5 then cmpI (sel i b.s0 b.s1 * one1 a.n) (sel i a.s0 a.s1 * one1 b.n) else 0
theorem one1_in {n : Int} (h : in64 n) : I64 (one1 n) := by
  unfold one1 in64 at *
  unfold I64
  split <;> omega
theorem C_Ahead (f i : Int) (a b : LineS) (ha : inL a) (hb : inL b) : PCallG Try.prog 55 [.c (.int .i64 f), .c (.int .i64 i), .c (encLine a), .c (encLine b)] (.c (.int .i64 (aheadC f i a b))) [] := by
  obtain ⟨a1, a2, a3, a4, a5, a6, a7⟩ := ha
  obtain ⟨b1, b2, b3, b4, b5, b6, b7⟩ := hb
  have o1 := one1_in a1
  have o2 := one1_in b1
  refine pcallF Try.func55 c55 rfl ?_
  have d1 := C_Compare b.n a.n
  have d2 := C_Compare b.s0 a.s0
  have d3 := C_Compare b.s1 a.s1
  have d4 := C_Compare b.lo0 a.lo0
  have d5 := C_Compare b.lo1 a.lo1
  have d6 := C_Compare b.hi0 a.hi0
  have d7 := C_Compare b.hi1 a.hi1
  have d8 := C_Cmp b.s0 (one1 a.n) a.s0 (one1 b.n) b2 o1 a2 o2
  have d9 := C_Cmp b.s1 (one1 a.n) a.s1 (one1 b.n) b3 o1 a3 o2
  unfold one1 at d8 d9
  have hf : f = 1 ∨ f = 2 ∨ f = 3 ∨ f = 4 ∨ f = 5 ∨ (f < 1 ∨ 5 < f) := by omega
  have hi : (i < 0 ∨ 2 ≤ i) ∨ i = 0 ∨ i = 1 := by omega
  unfold p55 r55_0 r55_1 r55_2 r55_3 r55_4 r55_5 r55_6 r55_7 r55_8 r55_9 r55_10 r55_11 r55_12 r55_13 r55_14
  rcases hf with rfl | rfl | rfl | rfl | rfl | hf
  · rw [show aheadC 1 i a b = cmpI b.n a.n by simp [aheadC]]
    repeat' (first | refine call2 rfl rfl d1 ?_ | refine w_seq ?_ | refine w_ops ?_ | refine st_nil ?_ | refine th_n ?_ | refine th_r ?_ | refine w_ret ?_ | refine w_true rfl ?_ | refine mv_c rfl ?_ | refine eql_t rfl rfl (by omega) ?_ | refine box_ rfl rfl rfl (fun u => ?_) | refine load_ptr rfl (by decide) rfl (Nat.le_of_ble_eq_true rfl) rfl ?_ | refine fad_ptr rfl rfl rfl ?_)
    exact fin_r rfl rfl
  · rcases hi with hi | rfl | rfl
    · rw [show aheadC 2 i a b = 0 by simp [aheadC, hi]]
      rcases hi with hi | hi
      all_goals
        repeat' (first | refine w_seq ?_ | refine w_ops ?_ | refine st_nil ?_ | refine th_n ?_ | refine th_r ?_ | refine w_skip ?_ | refine w_ret ?_ | refine w_true rfl ?_ | refine w_false rfl ?_ | refine g_yes rfl ?_ | refine g_no rfl ?_ | refine mv_c rfl ?_ | refine pick_t rfl rfl ?_ | refine pick_f rfl rfl ?_ | refine lss_t rfl rfl (by omega) ?_ | refine lss_f rfl rfl (by omega) ?_ | refine geq_t rfl rfl (by omega) ?_ | refine eql_f rfl rfl (by omega) ?_ | refine box_ rfl rfl rfl (fun u => ?_))
      all_goals exact fin_r rfl rfl
    · rw [show aheadC 2 0 a b = cmpI b.s0 a.s0 by simp [aheadC, sel]]
      repeat' (first | refine call2 rfl rfl d2 ?_ | refine w_seq ?_ | refine w_ops ?_ | refine w_opsD0 rfl ?_ | refine st_nil ?_ | refine th_n ?_ | refine th_r ?_ | refine bk_r ?_ | refine w_block ?_ | refine w_skip ?_ | refine w_ret ?_ | refine w_true rfl ?_ | refine w_false rfl ?_ | refine g_yes rfl ?_ | refine mv_c rfl ?_ | refine pick_f rfl rfl ?_ | refine lss_f rfl rfl (by omega) ?_ | refine geq_f rfl rfl (by omega) ?_ | refine eql_t rfl rfl (by omega) ?_ | refine eql_f rfl rfl (by omega) ?_ | refine box_ rfl rfl rfl (fun u => ?_) | refine load_ptr rfl (by decide) rfl (Nat.le_of_ble_eq_true rfl) rfl ?_ | refine fad_ptr rfl rfl rfl ?_ | refine iaA_ptr rfl rfl rfl (by omega) rfl ?_)
      exact fin_r rfl rfl
    · rw [show aheadC 2 1 a b = cmpI b.s1 a.s1 by simp [aheadC, sel]]
      repeat' (first | refine call2 rfl rfl d3 ?_ | refine w_seq ?_ | refine w_ops ?_ | refine w_opsD0 rfl ?_ | refine st_nil ?_ | refine th_n ?_ | refine th_r ?_ | refine bk_r ?_ | refine w_block ?_ | refine w_skip ?_ | refine w_ret ?_ | refine w_true rfl ?_ | refine w_false rfl ?_ | refine g_yes rfl ?_ | refine mv_c rfl ?_ | refine pick_f rfl rfl ?_ | refine lss_f rfl rfl (by omega) ?_ | refine geq_f rfl rfl (by omega) ?_ | refine eql_t rfl rfl (by omega) ?_ | refine eql_f rfl rfl (by omega) ?_ | refine box_ rfl rfl rfl (fun u => ?_) | refine load_ptr rfl (by decide) rfl (Nat.le_of_ble_eq_true rfl) rfl ?_ | refine fad_ptr rfl rfl rfl ?_ | refine iaA_ptr rfl rfl rfl (by omega) rfl ?_)
      exact fin_r rfl rfl
  · rcases hi with hi | rfl | rfl
    · rw [show aheadC 3 i a b = 0 by simp [aheadC, hi]]
      rcases hi with hi | hi
      all_goals
        repeat' (first | refine w_seq ?_ | refine w_ops ?_ | refine st_nil ?_ | refine th_n ?_ | refine th_r ?_ | refine w_skip ?_ | refine w_ret ?_ | refine w_true rfl ?_ | refine w_false rfl ?_ | refine g_yes rfl ?_ | refine g_no rfl ?_ | refine mv_c rfl ?_ | refine pick_t rfl rfl ?_ | refine pick_f rfl rfl ?_ | refine lss_t rfl rfl (by omega) ?_ | refine lss_f rfl rfl (by omega) ?_ | refine geq_t rfl rfl (by omega) ?_ | refine eql_f rfl rfl (by omega) ?_ | refine box_ rfl rfl rfl (fun u => ?_))
      all_goals exact fin_r rfl rfl
    · rw [show aheadC 3 0 a b = cmpI b.lo0 a.lo0 by simp [aheadC, sel]]
      repeat' (first | refine call2 rfl rfl d4 ?_ | refine w_seq ?_ | refine w_ops ?_ | refine w_opsD0 rfl ?_ | refine st_nil ?_ | refine th_n ?_ | refine th_r ?_ | refine bk_r ?_ | refine w_block ?_ | refine w_skip ?_ | refine w_ret ?_ | refine w_true rfl ?_ | refine w_false rfl ?_ | refine g_yes rfl ?_ | refine mv_c rfl ?_ | refine pick_f rfl rfl ?_ | refine lss_f rfl rfl (by omega) ?_ | refine geq_f rfl rfl (by omega) ?_ | refine eql_t rfl rfl (by omega) ?_ | refine eql_f rfl rfl (by omega) ?_ | refine box_ rfl rfl rfl (fun u => ?_) | refine load_ptr rfl (by decide) rfl (Nat.le_of_ble_eq_true rfl) rfl ?_ | refine fad_ptr rfl rfl rfl ?_ | refine iaA_ptr rfl rfl rfl (by omega) rfl ?_)
      exact fin_r rfl rfl
    · rw [show aheadC 3 1 a b = cmpI b.lo1 a.lo1 by simp [aheadC, sel]]
      repeat' (first | refine call2 rfl rfl d5 ?_ | refine w_seq ?_ | refine w_ops ?_ | refine w_opsD0 rfl ?_ | refine st_nil ?_ | refine th_n ?_ | refine th_r ?_ | refine bk_r ?_ | refine w_block ?_ | refine w_skip ?_ | refine w_ret ?_ | refine w_true rfl ?_ | refine w_false rfl ?_ | refine g_yes rfl ?_ | refine mv_c rfl ?_ | refine pick_f rfl rfl ?_ | refine lss_f rfl rfl (by omega) ?_ | refine geq_f rfl rfl (by omega) ?_ | refine eql_t rfl rfl (by omega) ?_ | refine eql_f rfl rfl (by omega) ?_ | refine box_ rfl rfl rfl (fun u => ?_) | refine load_ptr rfl (by decide) rfl (Nat.le_of_ble_eq_true rfl) rfl ?_ | refine fad_ptr rfl rfl rfl ?_ | refine iaA_ptr rfl rfl rfl (by omega) rfl ?_)
      exact fin_r rfl rfl
  · rcases hi with hi | rfl | rfl
    · rw [show aheadC 4 i a b = 0 by simp [aheadC, hi]]
      rcases hi with hi | hi
      all_goals
        repeat' (first | refine w_seq ?_ | refine w_ops ?_ | refine st_nil ?_ | refine th_n ?_ | refine th_r ?_ | refine w_skip ?_ | refine w_ret ?_ | refine w_true rfl ?_ | refine w_false rfl ?_ | refine g_yes rfl ?_ | refine g_no rfl ?_ | refine mv_c rfl ?_ | refine pick_t rfl rfl ?_ | refine pick_f rfl rfl ?_ | refine lss_t rfl rfl (by omega) ?_ | refine lss_f rfl rfl (by omega) ?_ | refine geq_t rfl rfl (by omega) ?_ | refine eql_f rfl rfl (by omega) ?_ | refine box_ rfl rfl rfl (fun u => ?_))
      all_goals exact fin_r rfl rfl
    · rw [show aheadC 4 0 a b = cmpI b.hi0 a.hi0 by simp [aheadC, sel]]
      repeat' (first | refine call2 rfl rfl d6 ?_ | refine w_seq ?_ | refine w_ops ?_ | refine w_opsD0 rfl ?_ | refine st_nil ?_ | refine th_n ?_ | refine th_r ?_ | refine bk_r ?_ | refine w_block ?_ | refine w_skip ?_ | refine w_ret ?_ | refine w_true rfl ?_ | refine w_false rfl ?_ | refine g_yes rfl ?_ | refine mv_c rfl ?_ | refine pick_f rfl rfl ?_ | refine lss_f rfl rfl (by omega) ?_ | refine geq_f rfl rfl (by omega) ?_ | refine eql_t rfl rfl (by omega) ?_ | refine eql_f rfl rfl (by omega) ?_ | refine box_ rfl rfl rfl (fun u => ?_) | refine load_ptr rfl (by decide) rfl (Nat.le_of_ble_eq_true rfl) rfl ?_ | refine fad_ptr rfl rfl rfl ?_ | refine iaA_ptr rfl rfl rfl (by omega) rfl ?_)
      exact fin_r rfl rfl
    · rw [show aheadC 4 1 a b = cmpI b.hi1 a.hi1 by simp [aheadC, sel]]
      repeat' (first | refine call2 rfl rfl d7 ?_ | refine w_seq ?_ | refine w_ops ?_ | refine w_opsD0 rfl ?_ | refine st_nil ?_ | refine th_n ?_ | refine th_r ?_ | refine bk_r ?_ | refine w_block ?_ | refine w_skip ?_ | refine w_ret ?_ | refine w_true rfl ?_ | refine w_false rfl ?_ | refine g_yes rfl ?_ | refine mv_c rfl ?_ | refine pick_f rfl rfl ?_ | refine lss_f rfl rfl (by omega) ?_ | refine geq_f rfl rfl (by omega) ?_ | refine eql_t rfl rfl (by omega) ?_ | refine eql_f rfl rfl (by omega) ?_ | refine box_ rfl rfl rfl (fun u => ?_) | refine load_ptr rfl (by decide) rfl (Nat.le_of_ble_eq_true rfl) rfl ?_ | refine fad_ptr rfl rfl rfl ?_ | refine iaA_ptr rfl rfl rfl (by omega) rfl ?_)
      exact fin_r rfl rfl
  · rcases hi with hi | rfl | rfl
    · rw [show aheadC 5 i a b = 0 by simp [aheadC, hi]]
      rcases hi with hi | hi
      all_goals
        repeat' (first | refine w_seq ?_ | refine w_ops ?_ | refine st_nil ?_ | refine th_n ?_ | refine th_r ?_ | refine w_skip ?_ | refine w_ret ?_ | refine w_true rfl ?_ | refine w_false rfl ?_ | refine g_yes rfl ?_ | refine g_no rfl ?_ | refine mv_c rfl ?_ | refine pick_t rfl rfl ?_ | refine pick_f rfl rfl ?_ | refine lss_t rfl rfl (by omega) ?_ | refine lss_f rfl rfl (by omega) ?_ | refine geq_t rfl rfl (by omega) ?_ | refine eql_f rfl rfl (by omega) ?_ | refine box_ rfl rfl rfl (fun u => ?_))
      all_goals exact fin_r rfl rfl
    · rw [show aheadC 5 0 a b = cmpI (b.s0 * one1 a.n) (a.s0 * one1 b.n) by simp [aheadC, sel]]
      repeat' (first | refine call4 rfl rfl rfl rfl d8 ?_ | refine w_seq ?_ | refine w_ops ?_ | refine w_opsD0 rfl ?_ | refine st_nil ?_ | refine th_n ?_ | refine th_r ?_ | refine bk_r ?_ | refine w_block ?_ | refine w_skip ?_ | refine w_ret ?_ | refine w_true rfl ?_ | refine w_false rfl ?_ | refine g_yes rfl ?_ | refine mv_c rfl ?_ | refine pick_f rfl rfl ?_ | refine lss_f rfl rfl (by omega) ?_ | refine geq_f rfl rfl (by omega) ?_ | refine eql_t rfl rfl (by omega) ?_ | refine eql_f rfl rfl (by omega) ?_ | refine box_ rfl rfl rfl (fun u => ?_) | refine load_ptr rfl (by decide) rfl (Nat.le_of_ble_eq_true rfl) rfl ?_ | refine fad_ptr rfl rfl rfl ?_ | refine iaA_ptr rfl rfl rfl (by omega) rfl ?_ | refine mm_max rfl rfl ?_)
      exact fin_r rfl rfl
    · rw [show aheadC 5 1 a b = cmpI (b.s1 * one1 a.n) (a.s1 * one1 b.n) by simp [aheadC, sel]]
      repeat' (first | refine call4 rfl rfl rfl rfl d9 ?_ | refine w_seq ?_ | refine w_ops ?_ | refine w_opsD0 rfl ?_ | refine st_nil ?_ | refine th_n ?_ | refine th_r ?_ | refine bk_r ?_ | refine w_block ?_ | refine w_skip ?_ | refine w_ret ?_ | refine w_true rfl ?_ | refine w_false rfl ?_ | refine g_yes rfl ?_ | refine mv_c rfl ?_ | refine pick_f rfl rfl ?_ | refine lss_f rfl rfl (by omega) ?_ | refine geq_f rfl rfl (by omega) ?_ | refine eql_t rfl rfl (by omega) ?_ | refine eql_f rfl rfl (by omega) ?_ | refine box_ rfl rfl rfl (fun u => ?_) | refine load_ptr rfl (by decide) rfl (Nat.le_of_ble_eq_true rfl) rfl ?_ | refine fad_ptr rfl rfl rfl ?_ | refine iaA_ptr rfl rfl rfl (by omega) rfl ?_ | refine mm_max rfl rfl ?_)
      exact fin_r rfl rfl
  · have e : aheadC f i a b = 0 := by
      unfold aheadC
      rw [if_neg (by omega)]
      split
      · rfl
      · rw [if_neg (by omega), if_neg (by omega), if_neg (by omega), if_neg (by omega)]
    rw [e]
    rcases hi with (hi | hi) | rfl | rfl
    all_goals
      repeat' (first | refine w_seq ?_ | refine w_ops ?_ | refine st_nil ?_ | refine th_n ?_ | refine th_r ?_ | refine bk_n ?_ | refine w_block ?_ | refine w_skip ?_ | refine w_ret ?_ | refine w_true rfl ?_ | refine w_false rfl ?_ | refine g_yes rfl ?_ | refine g_no rfl ?_ | refine mv_c rfl ?_ | refine pick_t rfl rfl ?_ | refine pick_f rfl rfl ?_ | refine lss_t rfl rfl (by omega) ?_ | refine lss_f rfl rfl (by omega) ?_ | refine geq_t rfl rfl (by omega) ?_ | refine geq_f rfl rfl (by omega) ?_ | refine eql_f rfl rfl (by omega) ?_ | refine box_ rfl rfl rfl (fun u => ?_))
    all_goals exact fin_r rfl rfl
end Go.Proofs.Ytcmejdkjfekoeaa

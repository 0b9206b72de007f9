import Derived.Test.YtcmejdkjfekoeaaWSorted
import Derived.Test.YtcmejdkjfekoeaaWTotal
import Derived.Test.YtcmejdkjfekoeaaWMore
namespace Go.Proofs.Ytcmejdkjfekoeaa
open Go.Pl Go.Bag
set_option maxHeartbeats 8000000

theorem encIL_eq (l : List Int) : encIL' l = encIL l := rfl

theorem of_loop {K : Ex → PS → Prop} (l : List Int) (hlen : l.length < 400000000) : ∀ (rest : List Int) (i : Nat) (out : List Run) (s : PS), l.drop i = rest → i ≤ l.length → pos out → out.length ≤ i → sum out ≤ i →
    s.t 8 = .c (encIL l) → s.t 9 = .c (.int .i64 l.length) → s.t 10 = .c (.int .i64 i) → s.t 3 = .osl 3 (s.bx 3).ver 0 (encE out).length → s.bx 3 = ⟨(s.bx 3).ver, .sl 2 (encE out)⟩ →
    (∀ s' v, s'.t 3 = .osl 3 v 0 (encE (ofS out rest)).length → s'.bx 3 = ⟨v, .sl 2 (encE (ofS out rest))⟩ → K (.x 0) s') → wP (PCallG Try.prog) (.loop b21_0) s K := by
  intro rest
  induction rest with
  | nil =>
    intro i out s hd hi hp hl hs t8 t9 t10 t3 b3 hx
    refine w_loop ?_
    have hi' : i = l.length := by have := List.drop_eq_nil_iff.mp hd; omega
    subst hi'
    generalize (s.bx 3).ver = v3 at t3 b3
    rw [← put_same t8, ← put_same t9, ← put_same t10, ← put_same t3, ← box_same b3]
    unfold b21_0 r21_3 r21_4 r21_5 r21_6
    repeat' (first
      | refine w_seq ?_
      | refine w_ops ?_
      | refine st_nil ?_
      | refine th_n ?_
      | refine th_x ?_
      | refine th_r ?_
      | refine bk_n ?_
      | refine bk_r ?_
      | refine bk_x ?_
      | refine bk_y (by decide) ?_
      | refine w_block ?_
      | refine w_skip ?_
      | refine w_exit ?_
      | refine w_true rfl ?_
      | refine w_false rfl ?_
      | refine w_condd rfl (fun hc => ?_) (fun hc => ?_)
      | refine w_cond rfl (fun hc => ?_) (fun hc => ?_)
      | refine mv_c rfl ?_
      | refine mv_ptr rfl ?_
      | refine mv_rp rfl ?_
      | refine mv_osl rfl ?_
      | refine mv_sp rfl ?_
      | refine mv_undef rfl ?_
      | refine lss_t rfl rfl (by omega) ?_
      | refine lss_f rfl rfl (by omega) ?_
      | refine lss_ rfl rfl ?_
      | refine addu_in rfl rfl (by omega) ?_
      | refine add_in rfl rfl (by omega) ?_
      | refine load_rp rfl (Nat.le_of_ble_eq_true rfl) rfl ?_
      | refine load_ptr rfl (by decide) rfl (Nat.le_of_ble_eq_true rfl) rfl ?_
      | refine load_sp rfl (by decide) rfl (by assumption) (Nat.le_of_ble_eq_true rfl) rfl ?_
      | refine iaS_c rfl rfl (by omega) (by assumption) rfl ?_
      | refine iaS_osl rfl rfl rfl (by omega) rfl ?_
      | refine iaS_osl rfl rfl rfl (by first | omega | (simp; omega)) rfl ?_
      | refine w_rn_same rfl ?_
      | refine w_rn rfl (by decide) rfl rfl (fun _ _ => ?_)
      | refine addu_ rfl rfl ?_
      | refine bin_ rfl rfl rfl ?_)
    exact hx _ _ (by rfl) (by rfl)
  | cons a rest ih =>
    intro i out s hd hi hp hl hs t8 t9 t10 t3 b3 hx
    refine w_loop ?_
    have hil : i < l.length := by have := congrArg List.length hd; simp at this; omega
    have hn : l.drop (i + 1) = rest := by have := congrArg List.tail hd; simpa [List.tail_drop] using this
    have he : (l.map encI)[i]? = some (encI a) := by
      have : l[i]? = some a := by have := congrArg List.head? hd; simpa [List.head?_drop] using this
      simp [this]
    have hM := C_more out a 1 (by omega) fun q hq => by have := le_sum hp q hq; omega
    generalize (s.bx 3).ver = v3 at t3 b3
    rw [← put_same t8, ← put_same t9, ← put_same t10, ← put_same t3, ← box_same b3]
    unfold b21_0 r21_3 r21_4 r21_5 r21_6
    repeat' (first
      | refine callO2 rfl rfl rfl rfl rfl hM rfl (fun _ _ => ?_)
      | refine w_seq ?_
      | refine w_ops ?_
      | refine st_nil ?_
      | refine th_n ?_
      | refine th_x ?_
      | refine th_r ?_
      | refine bk_n ?_
      | refine bk_r ?_
      | refine bk_x ?_
      | refine bk_y (by decide) ?_
      | refine w_block ?_
      | refine w_skip ?_
      | refine w_exit ?_
      | refine w_true rfl ?_
      | refine w_false rfl ?_
      | refine w_condd rfl (fun hc => ?_) (fun hc => ?_)
      | refine w_cond rfl (fun hc => ?_) (fun hc => ?_)
      | refine mv_c rfl ?_
      | refine mv_ptr rfl ?_
      | refine mv_rp rfl ?_
      | refine mv_osl rfl ?_
      | refine mv_sp rfl ?_
      | refine mv_undef rfl ?_
      | refine lss_t rfl rfl (by omega) ?_
      | refine lss_f rfl rfl (by omega) ?_
      | refine lss_ rfl rfl ?_
      | refine addu_in rfl rfl (by omega) ?_
      | refine add_in rfl rfl (by omega) ?_
      | refine load_rp rfl (Nat.le_of_ble_eq_true rfl) rfl ?_
      | refine load_ptr rfl (by decide) rfl (Nat.le_of_ble_eq_true rfl) rfl ?_
      | refine load_sp rfl (by decide) rfl (by assumption) (Nat.le_of_ble_eq_true rfl) rfl ?_
      | refine iaS_c rfl rfl (by omega) (by assumption) rfl ?_
      | refine iaS_osl rfl rfl rfl (by omega) rfl ?_
      | refine iaS_osl rfl rfl rfl (by first | omega | (simp; omega)) rfl ?_
      | refine w_rn_same rfl ?_
      | refine w_rn rfl (by decide) rfl rfl (fun _ _ => ?_)
      | refine addu_ rfl rfl ?_
      | refine bin_ rfl rfl rfl ?_)
    exact ih (i + 1) (moreL out a 1) _ hn (by omega) (moreL_pos hp (Int.le_refl _)) (by have := moreL_len out a 1; omega) (by rw [moreL_sum]; omega) (by rfl) (by rfl) (by rfl) (by rfl) (by rfl) hx

theorem C_Of (l : List Int) (hlen : l.length < 400000000) : PCallG Try.prog 21 [.c (encIL l)] (.c (encL (ofL l))) [] := by
  refine pcallF Try.func21 c21 rfl ?_
  have h1 : PCallG Try.prog 83 [.c (encIL l)] (.c (.clo 117 (encIL l))) [] := C_Values l
  have h2 : PCallG Try.prog 82 [.c (.clo 117 (encIL l))] (.c (encIL (srt l))) [] := C_Sorted l (by omega)
  have hl : (srt l).length = l.length := (srt_perm l).length_eq
  unfold p21 r21_0 r21_1 r21_2 r21_7
  repeat' (first
    | refine call1 rfl h1 ?_
    | refine call1 rfl h2 ?_
    | refine len_sl rfl (List.length_map _) ?_
    | refine w_seq ?_
    | refine w_ops ?_
    | refine st_nil ?_
    | refine th_n ?_
    | refine th_r ?_
    | refine bk_n ?_
    | refine bk_r ?_
    | refine bk_x ?_
    | refine bk_y (by decide) ?_
    | refine w_block ?_
    | refine w_ret ?_
    | refine mv_c rfl ?_
    | refine mv_ptr rfl ?_
    | refine mv_rp rfl ?_
    | refine mv_osl rfl ?_
    | refine mv_sp rfl ?_
    | refine mv_undef rfl ?_
    | refine own0_ (fun u => ?_)
    | refine len_sl rfl (by first | assumption | exact List.length_map _) ?_
    | refine len_sl rfl rfl ?_
    | refine len_osl rfl rfl ?_
    | refine len_osl rfl rfl ?_)
  refine of_loop (srt l) (by omega) (srt l) 0 [] _ rfl (by omega) (fun q hq => by simp at hq) (by simp) (by simp [sum]) (by rfl) (by rfl) (by rfl) (by rfl) (by rfl) ?_
  intro s' v t3 b3
  rw [← put_same t3, ← box_same b3]
  repeat' (first
    | refine w_seq ?_
    | refine w_ops ?_
    | refine st_nil ?_
    | refine th_n ?_
    | refine th_r ?_
    | refine bk_n ?_
    | refine bk_r ?_
    | refine bk_x ?_
    | refine bk_y (by decide) ?_
    | refine w_block ?_
    | refine w_ret ?_
    | refine mv_c rfl ?_
    | refine mv_ptr rfl ?_
    | refine mv_rp rfl ?_
    | refine mv_osl rfl ?_
    | refine mv_sp rfl ?_
    | refine mv_undef rfl ?_
    | refine own0_ (fun u => ?_)
    | refine len_sl rfl (by first | assumption | exact List.length_map _) ?_
    | refine len_sl rfl rfl ?_
    | refine len_osl rfl rfl ?_
    | refine len_osl rfl rfl ?_)
  exact fin_r (rv_own rfl rfl rfl rv_nil) rfl
end Go.Proofs.Ytcmejdkjfekoeaa

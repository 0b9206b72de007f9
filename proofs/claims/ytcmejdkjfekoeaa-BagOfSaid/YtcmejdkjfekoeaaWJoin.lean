import Derived.Test.YtcmejdkjfekoeaaWMore
import Derived.Test.YtcmejdkjfekoeaaWBag1
namespace Go.Proofs.Ytcmejdkjfekoeaa
open Go.Pl Go.Bag
set_option maxHeartbeats 4000000

theorem slc_tail {C : CallP} {l : List POp} {s : PS} {K : PS → Prop} {d sz : Nat} {x : PO} {e : List CV} {es : List (List CV)} (hx : s.ev x = .c (.sl (e :: es))) (hw : ∀ q ∈ e :: es, q.length = sz)
    (h : wL C l (s.put d (.c (.sl es))) K) : wL C (⟨some d, .slc sz x (some (.k (.int .i64 1))) none, none⟩ :: l) s K :=
  slc_c hx rfl rfl ⟨Nat.le_add_left _ _, Nat.le_refl _⟩ hw (by
    show ((e :: es).take (e :: es).length).drop 1 = es
    simp) h

theorem join_loop {K : Ex → PS → Prop} (v2 v3 : Nat) : ∀ (m : Nat) (out a b : List Run) (s : PS), a.length + b.length = m → out.length + m < 1000000000 → pos out → pos a → pos b → sum out + sum a + sum b ≤ 4398046511104 →
    s.t 2 = .ptr 2 v2 0 → s.bx 2 = ⟨v2, .var [encL a]⟩ → s.t 3 = .ptr 3 v3 0 → s.bx 3 = ⟨v3, .var [encL b]⟩ → s.t 6 = .osl 6 (s.bx 6).ver 0 (encE out).length → s.bx 6 = ⟨(s.bx 6).ver, .sl 2 (encE out)⟩ →
    (∀ s' v, s'.t 6 = .osl 6 v 0 (encE (merge out a b)).length → s'.bx 6 = ⟨v, .sl 2 (encE (merge out a b))⟩ → K (.x 0) s') → wP (PCallG Try.prog) (.loop b25_0) s K := by
  intro m
  induction m with
  | zero =>
    intro out a b s hm hl po pa pb hs t2 b2 t3 b3 t6 b6 hx
    generalize (s.bx 6).ver = v6 at t6 b6
    obtain rfl : a = [] := List.eq_nil_of_length_eq_zero (by omega)
    obtain rfl : b = [] := List.eq_nil_of_length_eq_zero (by omega)
    refine w_loop ?_
    rw [← put_same t2, ← put_same t3, ← put_same t6, ← box_same b2, ← box_same b3, ← box_same b6]
    unfold b25_0 r25_4 r25_5 r25_6 r25_7 r25_8 r25_9
    repeat' (first
      | refine len_sl rfl rfl ?_
      | refine w_seq ?_
      | refine w_ops ?_
      | refine w_opsD0 rfl ?_
      | refine w_opsD1 rfl (fun u => ?_)
      | refine w_opsD2 rfl (fun u u => ?_)
      | refine w_opsD3 rfl (fun u u u => ?_)
      | refine w_opsD4 rfl (fun u u u u => ?_)
      | refine st_nil ?_
      | refine th_n ?_
      | refine th_x ?_
      | refine th_r ?_
      | refine bk_n ?_
      | refine bk_r ?_
      | refine bk_x ?_
      | refine bk_y (by decide) ?_
      | refine w_block ?_
      | refine w_skip ?_
      | refine w_exit ?_
      | refine w_true rfl ?_
      | refine w_false rfl ?_
      | refine w_condd rfl (fun hc => ?_) (fun hc => ?_)
      | refine w_cond rfl (fun hc => ?_) (fun hc => ?_)
      | refine g_yes rfl ?_
      | refine g_no rfl ?_
      | refine g_no' rfl ?_
      | refine g_un rfl ?_
      | refine g_un' rfl ?_
      | refine g_splitd rfl (fun hg => ?_) (fun hg => ?_)
      | refine g_split rfl (fun hg => ?_) (fun hg => ?_)
      | refine mv_c rfl ?_
      | refine mv_ptr rfl ?_
      | refine mv_rp rfl ?_
      | refine mv_osl rfl ?_
      | refine mv_sp rfl ?_
      | refine mv_undef rfl ?_
      | refine pick_t rfl rfl ?_
      | refine pick_f rfl rfl ?_
      | refine lss_t rfl rfl (by omega) ?_
      | refine lss_f rfl rfl (by omega) ?_
      | refine lss_ rfl rfl ?_
      | refine gtr_t rfl rfl (by omega) ?_
      | refine gtr_f rfl rfl (by omega) ?_
      | refine gtr_ rfl rfl ?_
      | refine eql_t rfl rfl (by omega) ?_
      | refine eql_f rfl rfl (by omega) ?_
      | refine eqd_ rfl rfl ?_
      | refine load_rp rfl (Nat.le_of_ble_eq_true rfl) rfl ?_
      | refine load_ptr rfl (by decide) rfl (Nat.le_of_ble_eq_true rfl) rfl ?_
      | refine load_sp rfl (by decide) rfl (by assumption) (Nat.le_of_ble_eq_true rfl) rfl ?_
      | refine store_ptr rfl rfl (by decide) rfl rfl (Nat.le_of_ble_eq_true rfl) rfl ?_
      | refine store_sp rfl rfl (by decide) rfl (by assumption) rfl (Nat.le_of_ble_eq_true rfl) rfl ?_
      | refine fad_ptr rfl rfl rfl ?_
      | refine fad_rp rfl (Nat.le_of_ble_eq_true rfl) rfl ?_
      | refine fad_sp rfl rfl rfl ?_
      | refine iaS_c rfl rfl (by omega) (by assumption) rfl ?_
      | refine iaS_osl rfl rfl rfl (by omega) rfl ?_
      | refine len_sl rfl (by first | assumption | exact List.length_map _) ?_
      | refine len_sl rfl rfl ?_
      | refine len_osl rfl rfl ?_
      | refine iaS_osl rfl rfl rfl (by first | omega | (simp; omega)) rfl ?_
      | refine len_osl rfl rfl ?_
      | refine w_rn_same rfl ?_
      | refine w_rn rfl (by decide) rfl rfl (fun _ _ => ?_)
      | refine nilc_ptr rfl rfl ?_
      | refine nilc_rp rfl ?_
      | refine bin_ rfl rfl rfl ?_)
    exact hx _ _ (by simp only [merge]; rfl) (by simp only [merge]; rfl)
  | succ m ih =>
    intro out a b s hm hl po pa pb hs t2 b2 t3 b3 t6 b6 hx
    generalize (s.bx 6).ver = v6 at t6 b6
    have ho := sum_nonneg po
    have ha := sum_nonneg pa
    have hb := sum_nonneg pb
    have fa : ∀ (r : Run) (a' : List Run), a = r :: a' → 1 ≤ r.2 ∧ pos a' ∧ sum a = r.2 + sum a' ∧ 0 ≤ sum a' := fun r a' e => by
      subst e; exact ⟨pa r (by simp), fun q hq => pa q (by simp [hq]), rfl, sum_nonneg fun q hq => pa q (by simp [hq])⟩
    have fb : ∀ (r : Run) (b' : List Run), b = r :: b' → 1 ≤ r.2 ∧ pos b' ∧ sum b = r.2 + sum b' ∧ 0 ≤ sum b' := fun r a' e => by
      subst e; exact ⟨pb r (by simp), fun q hq => pb q (by simp [hq]), rfl, sum_nonneg fun q hq => pb q (by simp [hq])⟩
    have hM : ∀ (r : Run), 1 ≤ r.2 → r.2 ≤ 4398046511104 → PCallG Try.prog 84 [.own 2 (encE out), .c (.int .i64 r.1), .c (.int .i64 r.2)] (.own 2 (encE (moreL out r.1 r.2))) [] := fun r h1 h2 =>
      C_more out r.1 r.2 (by omega) fun q hq => by have := le_sum po q hq; omega
    refine w_loop ?_
    rw [← put_same t2, ← put_same t3, ← put_same t6, ← box_same b2, ← box_same b3, ← box_same b6]
    unfold b25_0 r25_4 r25_5 r25_6 r25_7 r25_8 r25_9
    match a, b, hm with
    | [], s :: b', hm =>
      obtain ⟨f1, f2, f3, f4⟩ := fb s b' rfl
      have hc := hM s f1 (by omega)
      have h0 : ((s :: b').map encR)[(0 : Int).toNat]? = some (encR s) := rfl
      have hp : 0 < (s :: b').length := by simp
      have e : merge out [] (s :: b') = merge (moreL out s.1 s.2) [] b' := by simp only [merge]
      rw [e] at hx
      repeat' (first
        | refine len_sl (es := ([] : List Run).map encR) rfl rfl ?_
        | refine callO2 rfl rfl rfl rfl rfl hc rfl (fun _ _ => ?_)
        | refine slc_tail (es := b'.map encR) rfl (encR_len (s :: b')) ?_
        | refine w_seq ?_
        | refine w_ops ?_
        | refine w_opsD0 rfl ?_
        | refine w_opsD1 rfl (fun u => ?_)
        | refine w_opsD2 rfl (fun u u => ?_)
        | refine w_opsD3 rfl (fun u u u => ?_)
        | refine w_opsD4 rfl (fun u u u u => ?_)
        | refine st_nil ?_
        | refine th_n ?_
        | refine th_x ?_
        | refine th_r ?_
        | refine bk_n ?_
        | refine bk_r ?_
        | refine bk_x ?_
        | refine bk_y (by decide) ?_
        | refine w_block ?_
        | refine w_skip ?_
        | refine w_exit ?_
        | refine w_true rfl ?_
        | refine w_false rfl ?_
        | refine w_condd rfl (fun hc => ?_) (fun hc => ?_)
        | refine w_cond rfl (fun hc => ?_) (fun hc => ?_)
        | refine g_yes rfl ?_
        | refine g_no rfl ?_
        | refine g_no' rfl ?_
        | refine g_un rfl ?_
        | refine g_un' rfl ?_
        | refine g_splitd rfl (fun hg => ?_) (fun hg => ?_)
        | refine g_split rfl (fun hg => ?_) (fun hg => ?_)
        | refine mv_c rfl ?_
        | refine mv_ptr rfl ?_
        | refine mv_rp rfl ?_
        | refine mv_osl rfl ?_
        | refine mv_sp rfl ?_
        | refine mv_undef rfl ?_
        | refine pick_t rfl rfl ?_
        | refine pick_f rfl rfl ?_
        | refine lss_t rfl rfl (by omega) ?_
        | refine lss_f rfl rfl (by omega) ?_
        | refine lss_ rfl rfl ?_
        | refine gtr_t rfl rfl (by omega) ?_
        | refine gtr_f rfl rfl (by omega) ?_
        | refine gtr_ rfl rfl ?_
        | refine eql_t rfl rfl (by omega) ?_
        | refine eql_f rfl rfl (by omega) ?_
        | refine eqd_ rfl rfl ?_
        | refine load_rp rfl (Nat.le_of_ble_eq_true rfl) rfl ?_
        | refine load_ptr rfl (by decide) rfl (Nat.le_of_ble_eq_true rfl) rfl ?_
        | refine load_sp rfl (by decide) rfl (by assumption) (Nat.le_of_ble_eq_true rfl) rfl ?_
        | refine store_ptr rfl rfl (by decide) rfl rfl (Nat.le_of_ble_eq_true rfl) rfl ?_
        | refine store_sp rfl rfl (by decide) rfl (by assumption) rfl (Nat.le_of_ble_eq_true rfl) rfl ?_
        | refine fad_ptr rfl rfl rfl ?_
        | refine fad_rp rfl (Nat.le_of_ble_eq_true rfl) rfl ?_
        | refine fad_sp rfl rfl rfl ?_
        | refine iaS_c rfl rfl (by omega) (by assumption) rfl ?_
        | refine iaS_osl rfl rfl rfl (by omega) rfl ?_
        | refine len_sl rfl (by first | assumption | exact List.length_map _) ?_
        | refine len_sl rfl rfl ?_
        | refine len_osl rfl rfl ?_
        | refine iaS_osl rfl rfl rfl (by first | omega | (simp; omega)) rfl ?_
        | refine len_osl rfl rfl ?_
        | refine w_rn_same rfl ?_
        | refine w_rn rfl (by decide) rfl rfl (fun _ _ => ?_)
        | refine nilc_ptr rfl rfl ?_
        | refine nilc_rp rfl ?_
        | refine bin_ rfl rfl rfl ?_)
      exact ih (moreL out s.1 s.2) [] b' _ (by simpa using hm) (by have := moreL_len out s.1 s.2; omega) (moreL_pos po f1) pa f2 (by rw [moreL_sum]; omega) (by rfl) (by rfl) (by rfl) (by rfl) (by rfl) (by rfl) hx
    | r :: a', [], hm =>
      obtain ⟨f1, f2, f3, f4⟩ := fa r a' rfl
      have hc := hM r f1 (by omega)
      have h0 : ((r :: a').map encR)[(0 : Int).toNat]? = some (encR r) := rfl
      have hp : 0 < (r :: a').length := by simp
      have e : merge out (r :: a') [] = merge (moreL out r.1 r.2) a' [] := by simp only [merge]
      rw [e] at hx
      repeat' (first
        | refine len_sl (es := ([] : List Run).map encR) rfl rfl ?_
        | refine callO2 rfl rfl rfl rfl rfl hc rfl (fun _ _ => ?_)
        | refine slc_tail (es := a'.map encR) rfl (encR_len (r :: a')) ?_
        | refine w_seq ?_
        | refine w_ops ?_
        | refine w_opsD0 rfl ?_
        | refine w_opsD1 rfl (fun u => ?_)
        | refine w_opsD2 rfl (fun u u => ?_)
        | refine w_opsD3 rfl (fun u u u => ?_)
        | refine w_opsD4 rfl (fun u u u u => ?_)
        | refine st_nil ?_
        | refine th_n ?_
        | refine th_x ?_
        | refine th_r ?_
        | refine bk_n ?_
        | refine bk_r ?_
        | refine bk_x ?_
        | refine bk_y (by decide) ?_
        | refine w_block ?_
        | refine w_skip ?_
        | refine w_exit ?_
        | refine w_true rfl ?_
        | refine w_false rfl ?_
        | refine w_condd rfl (fun hc => ?_) (fun hc => ?_)
        | refine w_cond rfl (fun hc => ?_) (fun hc => ?_)
        | refine g_yes rfl ?_
        | refine g_no rfl ?_
        | refine g_no' rfl ?_
        | refine g_un rfl ?_
        | refine g_un' rfl ?_
        | refine g_splitd rfl (fun hg => ?_) (fun hg => ?_)
        | refine g_split rfl (fun hg => ?_) (fun hg => ?_)
        | refine mv_c rfl ?_
        | refine mv_ptr rfl ?_
        | refine mv_rp rfl ?_
        | refine mv_osl rfl ?_
        | refine mv_sp rfl ?_
        | refine mv_undef rfl ?_
        | refine pick_t rfl rfl ?_
        | refine pick_f rfl rfl ?_
        | refine lss_t rfl rfl (by omega) ?_
        | refine lss_f rfl rfl (by omega) ?_
        | refine lss_ rfl rfl ?_
        | refine gtr_t rfl rfl (by omega) ?_
        | refine gtr_f rfl rfl (by omega) ?_
        | refine gtr_ rfl rfl ?_
        | refine eql_t rfl rfl (by omega) ?_
        | refine eql_f rfl rfl (by omega) ?_
        | refine eqd_ rfl rfl ?_
        | refine load_rp rfl (Nat.le_of_ble_eq_true rfl) rfl ?_
        | refine load_ptr rfl (by decide) rfl (Nat.le_of_ble_eq_true rfl) rfl ?_
        | refine load_sp rfl (by decide) rfl (by assumption) (Nat.le_of_ble_eq_true rfl) rfl ?_
        | refine store_ptr rfl rfl (by decide) rfl rfl (Nat.le_of_ble_eq_true rfl) rfl ?_
        | refine store_sp rfl rfl (by decide) rfl (by assumption) rfl (Nat.le_of_ble_eq_true rfl) rfl ?_
        | refine fad_ptr rfl rfl rfl ?_
        | refine fad_rp rfl (Nat.le_of_ble_eq_true rfl) rfl ?_
        | refine fad_sp rfl rfl rfl ?_
        | refine iaS_c rfl rfl (by omega) (by assumption) rfl ?_
        | refine iaS_osl rfl rfl rfl (by omega) rfl ?_
        | refine len_sl rfl (by first | assumption | exact List.length_map _) ?_
        | refine len_sl rfl rfl ?_
        | refine len_osl rfl rfl ?_
        | refine iaS_osl rfl rfl rfl (by first | omega | (simp; omega)) rfl ?_
        | refine len_osl rfl rfl ?_
        | refine w_rn_same rfl ?_
        | refine w_rn rfl (by decide) rfl rfl (fun _ _ => ?_)
        | refine nilc_ptr rfl rfl ?_
        | refine nilc_rp rfl ?_
        | refine bin_ rfl rfl rfl ?_)
      exact ih (moreL out r.1 r.2) a' [] _ (by simpa using hm) (by have := moreL_len out r.1 r.2; omega) (moreL_pos po f1) f2 pb (by rw [moreL_sum]; omega) (by rfl) (by rfl) (by rfl) (by rfl) (by rfl) (by rfl) hx
    | r :: a', s :: b', hm =>
      obtain ⟨f1, f2, f3, f4⟩ := fa r a' rfl
      obtain ⟨g1, g2, g3, g4⟩ := fb s b' rfl
      have hc := hM r f1 (by omega)
      have hd := hM s g1 (by omega)
      have h0 : ((r :: a').map encR)[(0 : Int).toNat]? = some (encR r) := rfl
      have h1 : ((s :: b').map encR)[(0 : Int).toNat]? = some (encR s) := rfl
      have hp : 0 < (r :: a').length := by simp
      have hq : 0 < (s :: b').length := by simp
      by_cases hlt : s.1 < r.1
      · have e : merge out (r :: a') (s :: b') = merge (moreL out s.1 s.2) (r :: a') b' := by rw [merge]; simp [hlt]
        rw [e] at hx
        repeat' (first
          | refine callO2 rfl rfl rfl rfl rfl hd rfl (fun _ _ => ?_)
          | refine slc_tail (es := b'.map encR) rfl (encR_len (s :: b')) ?_
          | refine w_seq ?_
          | refine w_ops ?_
          | refine w_opsD0 rfl ?_
          | refine w_opsD1 rfl (fun u => ?_)
          | refine w_opsD2 rfl (fun u u => ?_)
          | refine w_opsD3 rfl (fun u u u => ?_)
          | refine w_opsD4 rfl (fun u u u u => ?_)
          | refine st_nil ?_
          | refine th_n ?_
          | refine th_x ?_
          | refine th_r ?_
          | refine bk_n ?_
          | refine bk_r ?_
          | refine bk_x ?_
          | refine bk_y (by decide) ?_
          | refine w_block ?_
          | refine w_skip ?_
          | refine w_exit ?_
          | refine w_true rfl ?_
          | refine w_false rfl ?_
          | refine w_condd rfl (fun hc => ?_) (fun hc => ?_)
          | refine w_cond rfl (fun hc => ?_) (fun hc => ?_)
          | refine g_yes rfl ?_
          | refine g_no rfl ?_
          | refine g_no' rfl ?_
          | refine g_un rfl ?_
          | refine g_un' rfl ?_
          | refine g_splitd rfl (fun hg => ?_) (fun hg => ?_)
          | refine g_split rfl (fun hg => ?_) (fun hg => ?_)
          | refine mv_c rfl ?_
          | refine mv_ptr rfl ?_
          | refine mv_rp rfl ?_
          | refine mv_osl rfl ?_
          | refine mv_sp rfl ?_
          | refine mv_undef rfl ?_
          | refine pick_t rfl rfl ?_
          | refine pick_f rfl rfl ?_
          | refine lss_t rfl rfl (by omega) ?_
          | refine lss_f rfl rfl (by omega) ?_
          | refine lss_ rfl rfl ?_
          | refine gtr_t rfl rfl (by omega) ?_
          | refine gtr_f rfl rfl (by omega) ?_
          | refine gtr_ rfl rfl ?_
          | refine eql_t rfl rfl (by omega) ?_
          | refine eql_f rfl rfl (by omega) ?_
          | refine eqd_ rfl rfl ?_
          | refine load_rp rfl (Nat.le_of_ble_eq_true rfl) rfl ?_
          | refine load_ptr rfl (by decide) rfl (Nat.le_of_ble_eq_true rfl) rfl ?_
          | refine load_sp rfl (by decide) rfl (by assumption) (Nat.le_of_ble_eq_true rfl) rfl ?_
          | refine store_ptr rfl rfl (by decide) rfl rfl (Nat.le_of_ble_eq_true rfl) rfl ?_
          | refine store_sp rfl rfl (by decide) rfl (by assumption) rfl (Nat.le_of_ble_eq_true rfl) rfl ?_
          | refine fad_ptr rfl rfl rfl ?_
          | refine fad_rp rfl (Nat.le_of_ble_eq_true rfl) rfl ?_
          | refine fad_sp rfl rfl rfl ?_
          | refine iaS_c rfl rfl (by omega) (by assumption) rfl ?_
          | refine iaS_osl rfl rfl rfl (by omega) rfl ?_
          | refine len_sl rfl (by first | assumption | exact List.length_map _) ?_
          | refine len_sl rfl rfl ?_
          | refine len_osl rfl rfl ?_
          | refine iaS_osl rfl rfl rfl (by first | omega | (simp; omega)) rfl ?_
          | refine len_osl rfl rfl ?_
          | refine w_rn_same rfl ?_
          | refine w_rn rfl (by decide) rfl rfl (fun _ _ => ?_)
          | refine nilc_ptr rfl rfl ?_
          | refine nilc_rp rfl ?_
          | refine bin_ rfl rfl rfl ?_)
        exact ih (moreL out s.1 s.2) (r :: a') b' _ (by simp at hm ⊢; omega) (by have := moreL_len out s.1 s.2; omega) (moreL_pos po g1) pa g2 (by rw [moreL_sum]; omega) (by rfl) (by rfl) (by rfl) (by rfl) (by rfl) (by rfl) hx
      · have e : merge out (r :: a') (s :: b') = merge (moreL out r.1 r.2) a' (s :: b') := by rw [merge]; simp [hlt]
        rw [e] at hx
        repeat' (first
          | refine callO2 rfl rfl rfl rfl rfl hc rfl (fun _ _ => ?_)
          | refine slc_tail (es := a'.map encR) rfl (encR_len (r :: a')) ?_
          | refine w_seq ?_
          | refine w_ops ?_
          | refine w_opsD0 rfl ?_
          | refine w_opsD1 rfl (fun u => ?_)
          | refine w_opsD2 rfl (fun u u => ?_)
          | refine w_opsD3 rfl (fun u u u => ?_)
          | refine w_opsD4 rfl (fun u u u u => ?_)
          | refine st_nil ?_
          | refine th_n ?_
          | refine th_x ?_
          | refine th_r ?_
          | refine bk_n ?_
          | refine bk_r ?_
          | refine bk_x ?_
          | refine bk_y (by decide) ?_
          | refine w_block ?_
          | refine w_skip ?_
          | refine w_exit ?_
          | refine w_true rfl ?_
          | refine w_false rfl ?_
          | refine w_condd rfl (fun hc => ?_) (fun hc => ?_)
          | refine w_cond rfl (fun hc => ?_) (fun hc => ?_)
          | refine g_yes rfl ?_
          | refine g_no rfl ?_
          | refine g_no' rfl ?_
          | refine g_un rfl ?_
          | refine g_un' rfl ?_
          | refine g_splitd rfl (fun hg => ?_) (fun hg => ?_)
          | refine g_split rfl (fun hg => ?_) (fun hg => ?_)
          | refine mv_c rfl ?_
          | refine mv_ptr rfl ?_
          | refine mv_rp rfl ?_
          | refine mv_osl rfl ?_
          | refine mv_sp rfl ?_
          | refine mv_undef rfl ?_
          | refine pick_t rfl rfl ?_
          | refine pick_f rfl rfl ?_
          | refine lss_t rfl rfl (by omega) ?_
          | refine lss_f rfl rfl (by omega) ?_
          | refine lss_ rfl rfl ?_
          | refine gtr_t rfl rfl (by omega) ?_
          | refine gtr_f rfl rfl (by omega) ?_
          | refine gtr_ rfl rfl ?_
          | refine eql_t rfl rfl (by omega) ?_
          | refine eql_f rfl rfl (by omega) ?_
          | refine eqd_ rfl rfl ?_
          | refine load_rp rfl (Nat.le_of_ble_eq_true rfl) rfl ?_
          | refine load_ptr rfl (by decide) rfl (Nat.le_of_ble_eq_true rfl) rfl ?_
          | refine load_sp rfl (by decide) rfl (by assumption) (Nat.le_of_ble_eq_true rfl) rfl ?_
          | refine store_ptr rfl rfl (by decide) rfl rfl (Nat.le_of_ble_eq_true rfl) rfl ?_
          | refine store_sp rfl rfl (by decide) rfl (by assumption) rfl (Nat.le_of_ble_eq_true rfl) rfl ?_
          | refine fad_ptr rfl rfl rfl ?_
          | refine fad_rp rfl (Nat.le_of_ble_eq_true rfl) rfl ?_
          | refine fad_sp rfl rfl rfl ?_
          | refine iaS_c rfl rfl (by omega) (by assumption) rfl ?_
          | refine iaS_osl rfl rfl rfl (by omega) rfl ?_
          | refine len_sl rfl (by first | assumption | exact List.length_map _) ?_
          | refine len_sl rfl rfl ?_
          | refine len_osl rfl rfl ?_
          | refine iaS_osl rfl rfl rfl (by first | omega | (simp; omega)) rfl ?_
          | refine len_osl rfl rfl ?_
          | refine w_rn_same rfl ?_
          | refine w_rn rfl (by decide) rfl rfl (fun _ _ => ?_)
          | refine nilc_ptr rfl rfl ?_
          | refine nilc_rp rfl ?_
          | refine bin_ rfl rfl rfl ?_)
        exact ih (moreL out r.1 r.2) a' (s :: b') _ (by simp at hm ⊢; omega) (by have := moreL_len out r.1 r.2; omega) (moreL_pos po f1) f2 pb (by rw [moreL_sum]; omega) (by rfl) (by rfl) (by rfl) (by rfl) (by rfl) (by rfl) hx

theorem C_Join (a b : List Run) (ha : a.length < 400000000) (hb : b.length < 400000000) : PCallG Try.prog 25 [.c (encL a), .c (encL b)] (.c (.tup [encL (join a b).1, .bool (join a b).2])) [] := by
  refine pcallF Try.func25 c25 rfl ?_
  unfold p25 r25_0 r25_1 r25_2 r25_3 r25_10
  have hA := C_good a (by omega)
  have hB := C_good b (by omega)
  cases ga : good a with
  | false =>
    rw [ga] at hA
    repeat' (first
      | refine box_ rfl (cs := [encL a]) rfl rfl (fun _ => ?_)
      | refine box_ rfl (cs := [encL b]) rfl rfl (fun _ => ?_)
      | refine call1 rfl hA ?_
      | refine w_seq ?_
      | refine w_ops ?_
      | refine w_opsD0 rfl ?_
      | refine w_opsD1 rfl (fun u => ?_)
      | refine w_opsD2 rfl (fun u u => ?_)
      | refine w_opsD3 rfl (fun u u u => ?_)
      | refine w_opsD4 rfl (fun u u u u => ?_)
      | refine st_nil ?_
      | refine th_n ?_
      | refine th_r ?_
      | refine bk_n ?_
      | refine bk_r ?_
      | refine bk_x ?_
      | refine bk_y (by decide) ?_
      | refine w_block ?_
      | refine w_skip ?_
      | refine w_ret ?_
      | refine w_true rfl ?_
      | refine w_false rfl ?_
      | refine w_condd rfl (fun hc => ?_) (fun hc => ?_)
      | refine w_cond rfl (fun hc => ?_) (fun hc => ?_)
      | refine g_yes rfl ?_
      | refine g_no rfl ?_
      | refine g_no' rfl ?_
      | refine g_un rfl ?_
      | refine g_un' rfl ?_
      | refine g_splitd rfl (fun hg => ?_) (fun hg => ?_)
      | refine g_split rfl (fun hg => ?_) (fun hg => ?_)
      | refine mv_c rfl ?_
      | refine mv_ptr rfl ?_
      | refine mv_rp rfl ?_
      | refine mv_osl rfl ?_
      | refine mv_sp rfl ?_
      | refine mv_undef rfl ?_
      | refine pick_t rfl rfl ?_
      | refine pick_f rfl rfl ?_
      | refine gtr_t rfl rfl (by omega) ?_
      | refine gtr_f rfl rfl (by omega) ?_
      | refine gtr_ rfl rfl ?_
      | refine notd_ rfl ?_
      | refine not_ rfl ?_
      | refine subu_in rfl rfl (by omega) ?_
      | refine sub_in rfl rfl (by omega) ?_
      | refine own0_ (fun u => ?_)
      | refine box_ rfl rfl rfl (fun u => ?_)
      | refine load_rp rfl (Nat.le_of_ble_eq_true rfl) rfl ?_
      | refine load_ptr rfl (by decide) rfl (Nat.le_of_ble_eq_true rfl) rfl ?_
      | refine load_sp rfl (by decide) rfl (by assumption) (Nat.le_of_ble_eq_true rfl) rfl ?_
      | refine un_ rfl rfl ?_
      | refine subu_ rfl rfl ?_
      | refine bin_ rfl rfl rfl ?_)
    exact fin_r rfl (by simp [one_, join, ga, encL])
  | true =>
    rw [ga] at hA
    obtain ⟨pa, sa⟩ := good_facts ga
    have na := sum_nonneg pa
    cases gb : good b with
    | false =>
      rw [gb] at hB
      repeat' (first
        | refine box_ rfl (cs := [encL a]) rfl rfl (fun _ => ?_)
        | refine box_ rfl (cs := [encL b]) rfl rfl (fun _ => ?_)
        | refine call1 rfl hA ?_
        | refine call1 rfl hB ?_
        | refine w_seq ?_
        | refine w_ops ?_
        | refine w_opsD0 rfl ?_
        | refine w_opsD1 rfl (fun u => ?_)
        | refine w_opsD2 rfl (fun u u => ?_)
        | refine w_opsD3 rfl (fun u u u => ?_)
        | refine w_opsD4 rfl (fun u u u u => ?_)
        | refine st_nil ?_
        | refine th_n ?_
        | refine th_r ?_
        | refine bk_n ?_
        | refine bk_r ?_
        | refine bk_x ?_
        | refine bk_y (by decide) ?_
        | refine w_block ?_
        | refine w_skip ?_
        | refine w_ret ?_
        | refine w_true rfl ?_
        | refine w_false rfl ?_
        | refine w_condd rfl (fun hc => ?_) (fun hc => ?_)
        | refine w_cond rfl (fun hc => ?_) (fun hc => ?_)
        | refine g_yes rfl ?_
        | refine g_no rfl ?_
        | refine g_no' rfl ?_
        | refine g_un rfl ?_
        | refine g_un' rfl ?_
        | refine g_splitd rfl (fun hg => ?_) (fun hg => ?_)
        | refine g_split rfl (fun hg => ?_) (fun hg => ?_)
        | refine mv_c rfl ?_
        | refine mv_ptr rfl ?_
        | refine mv_rp rfl ?_
        | refine mv_osl rfl ?_
        | refine mv_sp rfl ?_
        | refine mv_undef rfl ?_
        | refine pick_t rfl rfl ?_
        | refine pick_f rfl rfl ?_
        | refine gtr_t rfl rfl (by omega) ?_
        | refine gtr_f rfl rfl (by omega) ?_
        | refine gtr_ rfl rfl ?_
        | refine notd_ rfl ?_
        | refine not_ rfl ?_
        | refine subu_in rfl rfl (by omega) ?_
        | refine sub_in rfl rfl (by omega) ?_
        | refine own0_ (fun u => ?_)
        | refine box_ rfl rfl rfl (fun u => ?_)
        | refine load_rp rfl (Nat.le_of_ble_eq_true rfl) rfl ?_
        | refine load_ptr rfl (by decide) rfl (Nat.le_of_ble_eq_true rfl) rfl ?_
        | refine load_sp rfl (by decide) rfl (by assumption) (Nat.le_of_ble_eq_true rfl) rfl ?_
        | refine un_ rfl rfl ?_
        | refine subu_ rfl rfl ?_
        | refine bin_ rfl rfl rfl ?_)
      exact fin_r rfl (by simp [one_, join, gb, encL])
    | true =>
      rw [gb] at hB
      obtain ⟨pb, sb⟩ := good_facts gb
      have nb := sum_nonneg pb
      have hSa := C_count a (by omega) pa sa
      have hSb := C_count b (by omega) pb sb
      have sa' : sum a ≤ 1099511627776 := sa
      have sb' : sum b ≤ 1099511627776 := sb
      by_cases hle : sum a ≤ 1099511627776 - sum b
      · repeat' (first
        | refine box_ rfl (cs := [encL a]) rfl rfl (fun _ => ?_)
        | refine box_ rfl (cs := [encL b]) rfl rfl (fun _ => ?_)
        | refine call1 rfl hA ?_
        | refine call1 rfl hB ?_
        | refine call1 rfl hSa ?_
        | refine call1 rfl hSb ?_
        | refine w_seq ?_
        | refine w_ops ?_
        | refine w_opsD0 rfl ?_
        | refine w_opsD1 rfl (fun u => ?_)
        | refine w_opsD2 rfl (fun u u => ?_)
        | refine w_opsD3 rfl (fun u u u => ?_)
        | refine w_opsD4 rfl (fun u u u u => ?_)
        | refine st_nil ?_
        | refine th_n ?_
        | refine th_r ?_
        | refine bk_n ?_
        | refine bk_r ?_
        | refine bk_x ?_
        | refine bk_y (by decide) ?_
        | refine w_block ?_
        | refine w_skip ?_
        | refine w_ret ?_
        | refine w_true rfl ?_
        | refine w_false rfl ?_
        | refine w_condd rfl (fun hc => ?_) (fun hc => ?_)
        | refine w_cond rfl (fun hc => ?_) (fun hc => ?_)
        | refine g_yes rfl ?_
        | refine g_no rfl ?_
        | refine g_no' rfl ?_
        | refine g_un rfl ?_
        | refine g_un' rfl ?_
        | refine g_splitd rfl (fun hg => ?_) (fun hg => ?_)
        | refine g_split rfl (fun hg => ?_) (fun hg => ?_)
        | refine mv_c rfl ?_
        | refine mv_ptr rfl ?_
        | refine mv_rp rfl ?_
        | refine mv_osl rfl ?_
        | refine mv_sp rfl ?_
        | refine mv_undef rfl ?_
        | refine pick_t rfl rfl ?_
        | refine pick_f rfl rfl ?_
        | refine gtr_t rfl rfl (by omega) ?_
        | refine gtr_f rfl rfl (by omega) ?_
        | refine gtr_ rfl rfl ?_
        | refine notd_ rfl ?_
        | refine not_ rfl ?_
        | refine subu_in rfl rfl (by omega) ?_
        | refine sub_in rfl rfl (by omega) ?_
        | refine own0_ (fun u => ?_)
        | refine box_ rfl rfl rfl (fun u => ?_)
        | refine load_rp rfl (Nat.le_of_ble_eq_true rfl) rfl ?_
        | refine load_ptr rfl (by decide) rfl (Nat.le_of_ble_eq_true rfl) rfl ?_
        | refine load_sp rfl (by decide) rfl (by assumption) (Nat.le_of_ble_eq_true rfl) rfl ?_
        | refine un_ rfl rfl ?_
        | refine subu_ rfl rfl ?_
        | refine bin_ rfl rfl rfl ?_)
        refine join_loop _ _ _ [] a b _ rfl (by simp; omega) (fun q hq => by simp at hq) pa pb (by simp [sum]; omega) rfl rfl rfl rfl rfl rfl ?_
        intro s' v t6 b6
        rw [← put_same t6, ← box_same b6]
        repeat' (first
          | refine w_seq ?_
          | refine w_ops ?_
          | refine w_opsD0 rfl ?_
          | refine w_opsD1 rfl (fun u => ?_)
          | refine w_opsD2 rfl (fun u u => ?_)
          | refine w_opsD3 rfl (fun u u u => ?_)
          | refine w_opsD4 rfl (fun u u u u => ?_)
          | refine st_nil ?_
          | refine th_n ?_
          | refine th_r ?_
          | refine bk_n ?_
          | refine bk_r ?_
          | refine bk_x ?_
          | refine bk_y (by decide) ?_
          | refine w_block ?_
          | refine w_skip ?_
          | refine w_ret ?_
          | refine w_true rfl ?_
          | refine w_false rfl ?_
          | refine w_condd rfl (fun hc => ?_) (fun hc => ?_)
          | refine w_cond rfl (fun hc => ?_) (fun hc => ?_)
          | refine g_yes rfl ?_
          | refine g_no rfl ?_
          | refine g_no' rfl ?_
          | refine g_un rfl ?_
          | refine g_un' rfl ?_
          | refine g_splitd rfl (fun hg => ?_) (fun hg => ?_)
          | refine g_split rfl (fun hg => ?_) (fun hg => ?_)
          | refine mv_c rfl ?_
          | refine mv_ptr rfl ?_
          | refine mv_rp rfl ?_
          | refine mv_osl rfl ?_
          | refine mv_sp rfl ?_
          | refine mv_undef rfl ?_
          | refine pick_t rfl rfl ?_
          | refine pick_f rfl rfl ?_
          | refine gtr_t rfl rfl (by omega) ?_
          | refine gtr_f rfl rfl (by omega) ?_
          | refine gtr_ rfl rfl ?_
          | refine notd_ rfl ?_
          | refine not_ rfl ?_
          | refine subu_in rfl rfl (by omega) ?_
          | refine sub_in rfl rfl (by omega) ?_
          | refine own0_ (fun u => ?_)
          | refine box_ rfl rfl rfl (fun u => ?_)
          | refine load_rp rfl (Nat.le_of_ble_eq_true rfl) rfl ?_
          | refine load_ptr rfl (by decide) rfl (Nat.le_of_ble_eq_true rfl) rfl ?_
          | refine load_sp rfl (by decide) rfl (by assumption) (Nat.le_of_ble_eq_true rfl) rfl ?_
          | refine un_ rfl rfl ?_
          | refine subu_ rfl rfl ?_
          | refine bin_ rfl rfl rfl ?_)
        refine fin_r (rv_own rfl rfl rfl (rv_t rfl rv_nil)) ?_
        simp [one_, join, ga, gb, hle, encL, encE]
      · repeat' (first
        | refine box_ rfl (cs := [encL a]) rfl rfl (fun _ => ?_)
        | refine box_ rfl (cs := [encL b]) rfl rfl (fun _ => ?_)
        | refine call1 rfl hA ?_
        | refine call1 rfl hB ?_
        | refine call1 rfl hSa ?_
        | refine call1 rfl hSb ?_
        | refine w_seq ?_
        | refine w_ops ?_
        | refine w_opsD0 rfl ?_
        | refine w_opsD1 rfl (fun u => ?_)
        | refine w_opsD2 rfl (fun u u => ?_)
        | refine w_opsD3 rfl (fun u u u => ?_)
        | refine w_opsD4 rfl (fun u u u u => ?_)
        | refine st_nil ?_
        | refine th_n ?_
        | refine th_r ?_
        | refine bk_n ?_
        | refine bk_r ?_
        | refine bk_x ?_
        | refine bk_y (by decide) ?_
        | refine w_block ?_
        | refine w_skip ?_
        | refine w_ret ?_
        | refine w_true rfl ?_
        | refine w_false rfl ?_
        | refine w_condd rfl (fun hc => ?_) (fun hc => ?_)
        | refine w_cond rfl (fun hc => ?_) (fun hc => ?_)
        | refine g_yes rfl ?_
        | refine g_no rfl ?_
        | refine g_no' rfl ?_
        | refine g_un rfl ?_
        | refine g_un' rfl ?_
        | refine g_splitd rfl (fun hg => ?_) (fun hg => ?_)
        | refine g_split rfl (fun hg => ?_) (fun hg => ?_)
        | refine mv_c rfl ?_
        | refine mv_ptr rfl ?_
        | refine mv_rp rfl ?_
        | refine mv_osl rfl ?_
        | refine mv_sp rfl ?_
        | refine mv_undef rfl ?_
        | refine pick_t rfl rfl ?_
        | refine pick_f rfl rfl ?_
        | refine gtr_t rfl rfl (by omega) ?_
        | refine gtr_f rfl rfl (by omega) ?_
        | refine gtr_ rfl rfl ?_
        | refine notd_ rfl ?_
        | refine not_ rfl ?_
        | refine subu_in rfl rfl (by omega) ?_
        | refine sub_in rfl rfl (by omega) ?_
        | refine own0_ (fun u => ?_)
        | refine box_ rfl rfl rfl (fun u => ?_)
        | refine load_rp rfl (Nat.le_of_ble_eq_true rfl) rfl ?_
        | refine load_ptr rfl (by decide) rfl (Nat.le_of_ble_eq_true rfl) rfl ?_
        | refine load_sp rfl (by decide) rfl (by assumption) (Nat.le_of_ble_eq_true rfl) rfl ?_
        | refine un_ rfl rfl ?_
        | refine subu_ rfl rfl ?_
        | refine bin_ rfl rfl rfl ?_)
        exact fin_r rfl (by simp [one_, join, hle, encL])
end Go.Proofs.Ytcmejdkjfekoeaa

/- Part of the proof of DeltaRows: lemmas. -/
import Derived.Test.YtcmejdkjfekoeaaDRowsS5
import Derived.Test.YtcmejdkjfekoeaaDeltaRowsJ2
import Derived.Test.YtcmejdkjfekoeaaDeltaRowsJ3
set_option linter.unusedVariables false
set_option linter.unusedSimpArgs false
namespace Go.Proofs.Ytcmejdkjfekoeaa
open Go.Pl Go.Bag
set_option maxHeartbeats 4000000
def sumB (l : List Run) : Int × Bool := if good l = true ∧ I64 (wsum l) then (wsum l, true) else (0, false)
def tupI (p : Int × Bool) : CV := .tup [.int .i64 p.1, .bool p.2]
theorem C_Sum (l : List Run) (hlen : l.length < 4611686018427387904) (hr : ranged l) : PCallG Try.prog 31 [.c (encL l)] (.c (tupI (sumB l))) [] := by
  refine pcallF Try.func31 c31 rfl ?_
  unfold p31 r31_0 r31_1 r31_2 r31_3
  have hC := C_good l hlen
  cases hg : good l with
  | false =>
    rw [hg] at hC
    repeat' (first | refine call1 rfl hC ?_ | refine w_seq ?_ | refine w_ops ?_ | refine st_nil ?_ | refine th_n ?_ | refine th_r ?_ | refine w_ret ?_ | refine w_true rfl ?_ | refine mv_c rfl ?_ | refine not_ rfl ?_)
    exact fin_r rfl (by simp [one_, tupI, sumB, hg])
  | true =>
    rw [hg] at hC
    obtain ⟨hp, hs⟩ := good_facts hg
    have hs' : sum l ≤ 1099511627776 := hs
    have hn := sum_nonneg hp
    have hb := wsum_bound hp hr
    have hP := C_Part l [] hlen (by simp) hp hr hs' (fun q hq => by simp at hq) (fun q hq => by simp at hq) (by simp [sum])
    have e : wsum l - wsum [] = wsum l := by simp [wsum]
    rw [e] at hP
    have hI := C_Int (wsum l) (by constructor <;> omega)
    by_cases h : I64 (wsum l)
    · rw [if_pos h] at hI
      repeat' (first | refine call1 rfl hC ?_ | refine call2 rfl rfl hP ?_ | refine call1 rfl hI ?_ | refine w_seq ?_ | refine w_ops ?_ | refine st_nil ?_ | refine th_n ?_ | refine w_skip ?_ | refine w_ret ?_ | refine w_false rfl ?_ | refine mv_c rfl ?_ | refine not_ rfl ?_ | refine ext_ rfl rfl ?_)
      exact fin_r rfl (by simp [one_, tupI, sumB, hg, h])
    · rw [if_neg h] at hI
      repeat' (first | refine call1 rfl hC ?_ | refine call2 rfl rfl hP ?_ | refine call1 rfl hI ?_ | refine w_seq ?_ | refine w_ops ?_ | refine st_nil ?_ | refine th_n ?_ | refine w_skip ?_ | refine w_ret ?_ | refine w_false rfl ?_ | refine mv_c rfl ?_ | refine not_ rfl ?_ | refine ext_ rfl rfl ?_)
      exact fin_r rfl (by simp [one_, tupI, sumB, h])
theorem equal_loop {C : CallP} {K : Ex → PS → Prop} (l k : List Run) (hlen : l.length < 4611686018427387904) (hk : k.length = l.length) : ∀ (rest rest' : List Run) (i : Nat) (s : PS), l.drop i = rest → k.drop i = rest' → i ≤ l.length →
    s.t 0 = .c (encL l) → s.t 1 = .c (encL k) → s.t 12 = .c (.int .i64 l.length) → s.t 13 = .c (.int .i64 i) →
    (rest = rest' → ∀ s', K (.x 0) s') → (rest ≠ rest' → ∀ s', s'.t 4 = .c (.bool false) → K .r s') → wP C (.loop b87_0) s K := by
  intro rest
  induction rest with
  | nil =>
    intro rest' i s hd hd' hi t0 t1 t12 t13 hx hr
    refine w_loop ?_
    have := get_end hd hi
    subst this
    have h' : rest' = [] := by rw [← hd', ← hk]; simp
    subst h'
    rw [← put_same t12, ← put_same t13]
    unfold b87_0 r87_4 r87_5 r87_6 r87_7 r87_8
    repeat' (first | refine w_seq ?_ | refine w_ops ?_ | refine st_nil ?_ | refine th_n ?_ | refine th_x ?_ | refine w_exit ?_ | refine w_false rfl ?_ | refine lss_f rfl rfl (by omega) ?_)
    exact hx rfl _
  | cons r rest ih =>
    intro rest' i s hd hd' hi t0 t1 t12 t13 hx hr
    refine w_loop ?_
    have he := get_enc hd
    have hl := get_len hd
    have hn := get_next hd
    match rest', hd' with
    | [], hd' => exact absurd (List.drop_eq_nil_iff.mp hd') (by omega)
    | q :: rest', hd' =>
      have he' := get_enc hd'
      have hn' := get_next hd'
      rw [← put_same t0, ← put_same t1, ← put_same t12, ← put_same t13]
      unfold b87_0 r87_4 r87_5 r87_6 r87_7 r87_8
      have hq : eqC true [.i, .i] (.agg (encR r)) (.agg (encR q)) = some (decide (r = q)) := by
        obtain ⟨r1, r2⟩ := r
        obtain ⟨q1, q2⟩ := q
        by_cases h1 : r1 = q1 <;> by_cases h2 : r2 = q2 <;> simp [eqC, shEq, encR, h1, h2]
      by_cases hrq : r = q
      · rw [decide_eq_true hrq] at hq
        repeat' (first | refine eqs_f rfl rfl hq ?_ | refine w_seq ?_ | refine w_ops ?_ | refine w_opsD0 rfl ?_ | refine st_nil ?_ | refine th_n ?_ | refine bk_n ?_ | refine w_block ?_ | refine w_skip ?_ | refine w_true rfl ?_ | refine w_false rfl ?_ | refine mv_c rfl ?_ | refine lss_t rfl rfl (by omega) ?_ | refine add_in rfl rfl (by omega) ?_ | refine load_rp rfl (Nat.le_of_ble_eq_true rfl) rfl ?_ | refine iaS_c rfl rfl (by omega) (by assumption) rfl ?_)
        exact ih rest' (i + 1) _ hn hn' (by omega) (by rfl) (by rfl) (by rfl) (by rfl) (fun h => hx (by rw [hrq, h])) (fun h => hr (fun e => h (by injection e)))
      · rw [decide_eq_false hrq] at hq
        repeat' (first | refine eqs_f rfl rfl hq ?_ | refine w_seq ?_ | refine w_ops ?_ | refine w_opsD0 rfl ?_ | refine st_nil ?_ | refine th_n ?_ | refine th_r ?_ | refine bk_r ?_ | refine w_block ?_ | refine w_skip ?_ | refine w_ret ?_ | refine w_true rfl ?_ | refine mv_c rfl ?_ | refine lss_t rfl rfl (by omega) ?_ | refine load_rp rfl (Nat.le_of_ble_eq_true rfl) rfl ?_ | refine iaS_c rfl rfl (by omega) (by assumption) rfl ?_)
        exact hr (fun e => hrq (by injection e)) _ rfl
theorem C_Equal (l k : List Run) (hlen : l.length < 4611686018427387904) (hklen : k.length < 4611686018427387904) : PCallG Try.prog 87 [.c (encL l), .c (encL k)] (.c (.bool (decide (l = k)))) [] := by
  refine pcallF Try.func87 c87 rfl ?_
  unfold p87 r87_0 r87_1 r87_2 r87_3 r87_9
  by_cases hk : k.length = l.length
  · repeat' (first | refine w_seq ?_ | refine w_ops ?_ | refine st_nil ?_ | refine th_n ?_ | refine w_block ?_ | refine w_skip ?_ | refine w_false rfl ?_ | refine mv_c rfl ?_ | refine neq_f rfl rfl (by omega) ?_ | refine len_sl rfl (by first | assumption | exact List.length_map _) ?_)
    refine equal_loop l k hlen hk l k 0 _ rfl rfl (by omega) (by rfl) (by rfl) (by rfl) (by rfl) (fun h s' => ?_) (fun h s' h4 => ?_)
    · repeat' (first | refine w_seq ?_ | refine w_ops ?_ | refine st_nil ?_ | refine th_n ?_ | refine bk_x ?_ | refine w_ret ?_ | refine mv_c rfl ?_)
      exact fin_r rfl (by simp [one_, h])
    · rw [← put_same h4]
      repeat' (first | refine th_r ?_ | refine bk_r ?_)
      exact fin_r rfl (by simp [one_, h])
  · repeat' (first | refine w_seq ?_ | refine w_ops ?_ | refine st_nil ?_ | refine th_n ?_ | refine th_r ?_ | refine w_ret ?_ | refine w_true rfl ?_ | refine mv_c rfl ?_ | refine neq_t rfl rfl (by omega) ?_ | refine len_sl rfl (by first | assumption | exact List.length_map _) ?_)
    refine fin_r rfl ?_
    have : l ≠ k := fun e => hk (by rw [e])
    simp [one_, this]
theorem C_Same (l k : List Run) (hlen : l.length < 4611686018427387904) (hklen : k.length < 4611686018427387904) : PCallG Try.prog 29 [.c (encL l), .c (encL k)] (.c (.bool (decide (l = k)))) [] := by
  refine pcallF Try.func29 c29 rfl ?_
  unfold p29 r29_0 r29_1
  repeat' (first | refine call2 rfl rfl (C_Equal l k hlen hklen) ?_ | refine w_seq ?_ | refine w_ops ?_ | refine st_nil ?_ | refine th_n ?_ | refine w_ret ?_ | refine mv_c rfl ?_)
  exact fin_r rfl (by simp [one_])
end Go.Proofs.Ytcmejdkjfekoeaa
namespace Go.Proofs.Ytcmejdkjfekoeaa
open Go.Pl Go.Bag
set_option maxHeartbeats 4000000
theorem slc_tail {C : CallP} {l : List POp} {s : PS} {K : PS → Prop} {d sz : Nat} {x : PO} {e : List CV} {es : List (List CV)} (hx : s.ev x = .c (.sl (e :: es))) (hw : ∀ q ∈ e :: es, q.length = sz)
    (h : wL C l (s.put d (.c (.sl es))) K) : wL C (⟨some d, .slc sz x (some (.k (.int .i64 1))) none, none⟩ :: l) s K :=
  slc_c hx rfl rfl ⟨Nat.le_add_left _ _, Nat.le_refl _⟩ hw (by
    show ((e :: es).take (e :: es).length).drop 1 = es
    simp) h
theorem join_loop {K : Ex → PS → Prop} (v2 v3 : Nat) : ∀ (m : Nat) (out a b : List Run) (s : PS), a.length + b.length = m → out.length + m < 1000000000 → pos out → pos a → pos b → sum out + sum a + sum b ≤ 4398046511104 →
    s.t 2 = .ptr 2 v2 0 → s.bx 2 = ⟨v2, .var [encL a]⟩ → s.t 3 = .ptr 3 v3 0 → s.bx 3 = ⟨v3, .var [encL b]⟩ → s.t 6 = .osl 6 (s.bx 6).ver 0 (encE out).length → s.bx 6 = ⟨(s.bx 6).ver, .sl 2 (encE out)⟩ →
    (∀ s' v, s'.t 6 = .osl 6 v 0 (encE (merge out a b)).length → s'.bx 6 = ⟨v, .sl 2 (encE (merge out a b))⟩ → K (.x 0) s') → wP (PCallG Try.prog) (.loop b25_0) s K := by
  intro m
  induction m with
  | zero =>
    intro out a b s hm hl po pa pb hs t2 b2 t3 b3 t6 b6 hx
    generalize (s.bx 6).ver = v6 at t6 b6
    obtain rfl : a = [] := List.eq_nil_of_length_eq_zero (by omega)
    obtain rfl : b = [] := List.eq_nil_of_length_eq_zero (by omega)
    refine w_loop ?_
    rw [← put_same t2, ← put_same t3, ← put_same t6, ← box_same b2, ← box_same b3, ← box_same b6]
    unfold b25_0 r25_4 r25_5 r25_6 r25_7 r25_8 r25_9
    repeat' (first | refine len_sl rfl rfl ?_ | refine w_seq ?_ | refine w_ops ?_ | refine st_nil ?_ | refine th_n ?_ | refine th_x ?_ | refine w_exit ?_ | refine w_false rfl ?_ | refine g_yes rfl ?_ | refine mv_c rfl ?_ | refine pick_f rfl rfl ?_ | refine gtr_ rfl rfl ?_ | refine load_ptr rfl (by decide) rfl (Nat.le_of_ble_eq_true rfl) rfl ?_)
    exact hx _ _ (by simp only [merge]; rfl) (by simp only [merge]; rfl)
  | succ m ih =>
    intro out a b s hm hl po pa pb hs t2 b2 t3 b3 t6 b6 hx
    generalize (s.bx 6).ver = v6 at t6 b6
    have ho := sum_nonneg po
    have ha := sum_nonneg pa
    have hb := sum_nonneg pb
    have fa : ∀ (r : Run) (a' : List Run), a = r :: a' → 1 ≤ r.2 ∧ pos a' ∧ sum a = r.2 + sum a' ∧ 0 ≤ sum a' := fun r a' e => by
      subst e; exact ⟨pa r (by simp), fun q hq => pa q (by simp [hq]), rfl, sum_nonneg fun q hq => pa q (by simp [hq])⟩
    have fb : ∀ (r : Run) (b' : List Run), b = r :: b' → 1 ≤ r.2 ∧ pos b' ∧ sum b = r.2 + sum b' ∧ 0 ≤ sum b' := fun r a' e => by
      subst e; exact ⟨pb r (by simp), fun q hq => pb q (by simp [hq]), rfl, sum_nonneg fun q hq => pb q (by simp [hq])⟩
    have hM : ∀ (r : Run), 1 ≤ r.2 → r.2 ≤ 4398046511104 → PCallG Try.prog 84 [.own 2 (encE out), .c (.int .i64 r.1), .c (.int .i64 r.2)] (.own 2 (encE (moreL out r.1 r.2))) [] := fun r h1 h2 =>
      C_more out r.1 r.2 (by omega) fun q hq => by have := le_sum po q hq; omega
    refine w_loop ?_
    rw [← put_same t2, ← put_same t3, ← put_same t6, ← box_same b2, ← box_same b3, ← box_same b6]
    unfold b25_0 r25_4 r25_5 r25_6 r25_7 r25_8 r25_9
    match a, b, hm with
    | [], s :: b', hm =>
      obtain ⟨f1, f2, f3, f4⟩ := fb s b' rfl
      have hc := hM s f1 (by omega)
      have h0 : ((s :: b').map encR)[(0 : Int).toNat]? = some (encR s) := rfl
      have hp : 0 < (s :: b').length := by simp
      have e : merge out [] (s :: b') = merge (moreL out s.1 s.2) [] b' := by simp only [merge]
      rw [e] at hx
      repeat' (first | refine len_sl (es := ([] : List Run).map encR) rfl rfl ?_ | refine callO2 rfl rfl rfl rfl rfl hc rfl (fun _ _ => ?_) | refine slc_tail (es := b'.map encR) rfl (encR_len (s :: b')) ?_ | refine w_seq ?_ | refine w_ops ?_ | refine w_opsD0 rfl ?_ | refine w_opsD1 rfl (fun u => ?_) | refine st_nil ?_ | refine th_n ?_ | refine bk_n ?_ | refine w_block ?_ | refine w_skip ?_ | refine w_true rfl ?_ | refine g_yes rfl ?_ | refine g_no rfl ?_ | refine g_un rfl ?_ | refine mv_c rfl ?_ | refine mv_ptr rfl ?_ | refine mv_osl rfl ?_ | refine pick_t rfl rfl ?_ | refine pick_f rfl rfl ?_ | refine gtr_t rfl rfl (by omega) ?_ | refine gtr_ rfl rfl ?_ | refine eqd_ rfl rfl ?_ | refine load_rp rfl (Nat.le_of_ble_eq_true rfl) rfl ?_ | refine load_ptr rfl (by decide) rfl (Nat.le_of_ble_eq_true rfl) rfl ?_ | refine store_ptr rfl rfl (by decide) rfl rfl (Nat.le_of_ble_eq_true rfl) rfl ?_ | refine fad_rp rfl (Nat.le_of_ble_eq_true rfl) rfl ?_ | refine iaS_c rfl rfl (by omega) (by assumption) rfl ?_ | refine len_sl rfl (by first | assumption | exact List.length_map _) ?_ | refine w_rn rfl (by decide) rfl rfl (fun _ _ => ?_) | refine nilc_ptr rfl rfl ?_)
      exact ih (moreL out s.1 s.2) [] b' _ (by simpa using hm) (by have := moreL_len out s.1 s.2; omega) (moreL_pos po f1) pa f2 (by rw [moreL_sum]; omega) (by rfl) (by rfl) (by rfl) (by rfl) (by rfl) (by rfl) hx
    | r :: a', [], hm =>
      obtain ⟨f1, f2, f3, f4⟩ := fa r a' rfl
      have hc := hM r f1 (by omega)
      have h0 : ((r :: a').map encR)[(0 : Int).toNat]? = some (encR r) := rfl
      have hp : 0 < (r :: a').length := by simp
      have e : merge out (r :: a') [] = merge (moreL out r.1 r.2) a' [] := by simp only [merge]
      rw [e] at hx
      repeat' (first | refine len_sl (es := ([] : List Run).map encR) rfl rfl ?_ | refine callO2 rfl rfl rfl rfl rfl hc rfl (fun _ _ => ?_) | refine slc_tail (es := a'.map encR) rfl (encR_len (r :: a')) ?_ | refine w_seq ?_ | refine w_ops ?_ | refine w_opsD0 rfl ?_ | refine w_opsD1 rfl (fun u => ?_) | refine st_nil ?_ | refine th_n ?_ | refine bk_n ?_ | refine w_block ?_ | refine w_skip ?_ | refine w_true rfl ?_ | refine w_false rfl ?_ | refine g_yes rfl ?_ | refine g_no rfl ?_ | refine mv_c rfl ?_ | refine mv_ptr rfl ?_ | refine mv_osl rfl ?_ | refine pick_t rfl rfl ?_ | refine pick_f rfl rfl ?_ | refine gtr_t rfl rfl (by omega) ?_ | refine gtr_ rfl rfl ?_ | refine eql_f rfl rfl (by omega) ?_ | refine load_rp rfl (Nat.le_of_ble_eq_true rfl) rfl ?_ | refine load_ptr rfl (by decide) rfl (Nat.le_of_ble_eq_true rfl) rfl ?_ | refine store_ptr rfl rfl (by decide) rfl rfl (Nat.le_of_ble_eq_true rfl) rfl ?_ | refine fad_rp rfl (Nat.le_of_ble_eq_true rfl) rfl ?_ | refine iaS_c rfl rfl (by omega) (by assumption) rfl ?_ | refine len_sl rfl (by first | assumption | exact List.length_map _) ?_ | refine w_rn rfl (by decide) rfl rfl (fun _ _ => ?_) | refine nilc_ptr rfl rfl ?_)
      exact ih (moreL out r.1 r.2) a' [] _ (by simpa using hm) (by have := moreL_len out r.1 r.2; omega) (moreL_pos po f1) f2 pb (by rw [moreL_sum]; omega) (by rfl) (by rfl) (by rfl) (by rfl) (by rfl) (by rfl) hx
    | r :: a', s :: b', hm =>
      obtain ⟨f1, f2, f3, f4⟩ := fa r a' rfl
      obtain ⟨g1, g2, g3, g4⟩ := fb s b' rfl
      have hc := hM r f1 (by omega)
      have hd := hM s g1 (by omega)
      have h0 : ((r :: a').map encR)[(0 : Int).toNat]? = some (encR r) := rfl
      have h1 : ((s :: b').map encR)[(0 : Int).toNat]? = some (encR s) := rfl
      have hp : 0 < (r :: a').length := by simp
      have hq : 0 < (s :: b').length := by simp
      by_cases hlt : s.1 < r.1
      · have e : merge out (r :: a') (s :: b') = merge (moreL out s.1 s.2) (r :: a') b' := by rw [merge]; simp [hlt]
        rw [e] at hx
        repeat' (first | refine callO2 rfl rfl rfl rfl rfl hd rfl (fun _ _ => ?_) | refine slc_tail (es := b'.map encR) rfl (encR_len (s :: b')) ?_ | refine w_seq ?_ | refine w_ops ?_ | refine w_opsD0 rfl ?_ | refine w_opsD1 rfl (fun u => ?_) | refine st_nil ?_ | refine th_n ?_ | refine bk_n ?_ | refine w_block ?_ | refine w_skip ?_ | refine w_true rfl ?_ | refine g_yes rfl ?_ | refine g_no rfl ?_ | refine mv_c rfl ?_ | refine mv_ptr rfl ?_ | refine mv_osl rfl ?_ | refine pick_t rfl rfl ?_ | refine pick_f rfl rfl ?_ | refine lss_t rfl rfl (by omega) ?_ | refine gtr_t rfl rfl (by omega) ?_ | refine eql_f rfl rfl (by omega) ?_ | refine load_rp rfl (Nat.le_of_ble_eq_true rfl) rfl ?_ | refine load_ptr rfl (by decide) rfl (Nat.le_of_ble_eq_true rfl) rfl ?_ | refine store_ptr rfl rfl (by decide) rfl rfl (Nat.le_of_ble_eq_true rfl) rfl ?_ | refine fad_rp rfl (Nat.le_of_ble_eq_true rfl) rfl ?_ | refine iaS_c rfl rfl (by omega) (by assumption) rfl ?_ | refine len_sl rfl (by first | assumption | exact List.length_map _) ?_ | refine w_rn rfl (by decide) rfl rfl (fun _ _ => ?_) | refine nilc_ptr rfl rfl ?_)
        exact ih (moreL out s.1 s.2) (r :: a') b' _ (by simp at hm ⊢; omega) (by have := moreL_len out s.1 s.2; omega) (moreL_pos po g1) pa g2 (by rw [moreL_sum]; omega) (by rfl) (by rfl) (by rfl) (by rfl) (by rfl) (by rfl) hx
      · have e : merge out (r :: a') (s :: b') = merge (moreL out r.1 r.2) a' (s :: b') := by rw [merge]; simp [hlt]
        rw [e] at hx
        repeat' (first | refine callO2 rfl rfl rfl rfl rfl hc rfl (fun _ _ => ?_) | refine slc_tail (es := a'.map encR) rfl (encR_len (r :: a')) ?_ | refine w_seq ?_ | refine w_ops ?_ | refine w_opsD0 rfl ?_ | refine w_opsD1 rfl (fun u => ?_) | refine st_nil ?_ | refine th_n ?_ | refine bk_n ?_ | refine w_block ?_ | refine w_skip ?_ | refine w_true rfl ?_ | refine w_false rfl ?_ | refine g_yes rfl ?_ | refine g_no rfl ?_ | refine mv_c rfl ?_ | refine mv_ptr rfl ?_ | refine mv_osl rfl ?_ | refine pick_t rfl rfl ?_ | refine pick_f rfl rfl ?_ | refine lss_f rfl rfl (by omega) ?_ | refine gtr_t rfl rfl (by omega) ?_ | refine eql_f rfl rfl (by omega) ?_ | refine load_rp rfl (Nat.le_of_ble_eq_true rfl) rfl ?_ | refine load_ptr rfl (by decide) rfl (Nat.le_of_ble_eq_true rfl) rfl ?_ | refine store_ptr rfl rfl (by decide) rfl rfl (Nat.le_of_ble_eq_true rfl) rfl ?_ | refine fad_rp rfl (Nat.le_of_ble_eq_true rfl) rfl ?_ | refine iaS_c rfl rfl (by omega) (by assumption) rfl ?_ | refine len_sl rfl (by first | assumption | exact List.length_map _) ?_ | refine w_rn rfl (by decide) rfl rfl (fun _ _ => ?_) | refine nilc_ptr rfl rfl ?_)
        exact ih (moreL out r.1 r.2) a' (s :: b') _ (by simp at hm ⊢; omega) (by have := moreL_len out r.1 r.2; omega) (moreL_pos po f1) f2 pb (by rw [moreL_sum]; omega) (by rfl) (by rfl) (by rfl) (by rfl) (by rfl) (by rfl) hx
theorem C_Join (a b : List Run) (ha : a.length < 400000000) (hb : b.length < 400000000) : PCallG Try.prog 25 [.c (encL a), .c (encL b)] (.c (.tup [encL (join a b).1, .bool (join a b).2])) [] := by
  refine pcallF Try.func25 c25 rfl ?_
  unfold p25 r25_0 r25_1 r25_2 r25_3 r25_10
  have hA := C_good a (by omega)
  have hB := C_good b (by omega)
  cases ga : good a with
  | false =>
    rw [ga] at hA
    repeat' (first | refine box_ rfl (cs := [encL a]) rfl rfl (fun _ => ?_) | refine box_ rfl (cs := [encL b]) rfl rfl (fun _ => ?_) | refine call1 rfl hA ?_ | refine w_seq ?_ | refine w_ops ?_ | refine w_opsD0 rfl ?_ | refine st_nil ?_ | refine th_n ?_ | refine th_r ?_ | refine w_ret ?_ | refine w_true rfl ?_ | refine g_no rfl ?_ | refine mv_c rfl ?_ | refine pick_t rfl rfl ?_ | refine not_ rfl ?_ | refine load_ptr rfl (by decide) rfl (Nat.le_of_ble_eq_true rfl) rfl ?_)
    exact fin_r rfl (by simp [one_, join, ga, encL])
  | true =>
    rw [ga] at hA
    obtain ⟨pa, sa⟩ := good_facts ga
    have na := sum_nonneg pa
    cases gb : good b with
    | false =>
      rw [gb] at hB
      repeat' (first | refine box_ rfl (cs := [encL a]) rfl rfl (fun _ => ?_) | refine box_ rfl (cs := [encL b]) rfl rfl (fun _ => ?_) | refine call1 rfl hA ?_ | refine call1 rfl hB ?_ | refine w_seq ?_ | refine w_ops ?_ | refine w_opsD0 rfl ?_ | refine st_nil ?_ | refine th_n ?_ | refine th_r ?_ | refine w_ret ?_ | refine w_true rfl ?_ | refine g_yes rfl ?_ | refine g_no rfl ?_ | refine mv_c rfl ?_ | refine pick_t rfl rfl ?_ | refine pick_f rfl rfl ?_ | refine not_ rfl ?_ | refine load_ptr rfl (by decide) rfl (Nat.le_of_ble_eq_true rfl) rfl ?_)
      exact fin_r rfl (by simp [one_, join, gb, encL])
    | true =>
      rw [gb] at hB
      obtain ⟨pb, sb⟩ := good_facts gb
      have nb := sum_nonneg pb
      have hSa := C_count a (by omega) pa sa
      have hSb := C_count b (by omega) pb sb
      have sa' : sum a ≤ 1099511627776 := sa
      have sb' : sum b ≤ 1099511627776 := sb
      by_cases hle : sum a ≤ 1099511627776 - sum b
      · repeat' (first | refine box_ rfl (cs := [encL a]) rfl rfl (fun _ => ?_) | refine box_ rfl (cs := [encL b]) rfl rfl (fun _ => ?_) | refine call1 rfl hA ?_ | refine call1 rfl hB ?_ | refine call1 rfl hSa ?_ | refine call1 rfl hSb ?_ | refine w_seq ?_ | refine w_ops ?_ | refine w_opsD0 rfl ?_ | refine st_nil ?_ | refine th_n ?_ | refine w_block ?_ | refine w_skip ?_ | refine w_false rfl ?_ | refine g_yes rfl ?_ | refine mv_c rfl ?_ | refine pick_f rfl rfl ?_ | refine gtr_f rfl rfl (by omega) ?_ | refine not_ rfl ?_ | refine sub_in rfl rfl (by omega) ?_ | refine own0_ (fun u => ?_) | refine load_ptr rfl (by decide) rfl (Nat.le_of_ble_eq_true rfl) rfl ?_)
        refine join_loop _ _ _ [] a b _ rfl (by simp; omega) (fun q hq => by simp at hq) pa pb (by simp [sum]; omega) rfl rfl rfl rfl rfl rfl ?_
        intro s' v t6 b6
        rw [← put_same t6, ← box_same b6]
        repeat' (first | refine w_seq ?_ | refine w_ops ?_ | refine st_nil ?_ | refine th_n ?_ | refine bk_x ?_ | refine w_ret ?_ | refine mv_c rfl ?_ | refine mv_osl rfl ?_)
        refine fin_r (rv_own rfl rfl rfl (rv_t rfl rv_nil)) ?_
        simp [one_, join, ga, gb, hle, encL, encE]
      · repeat' (first | refine box_ rfl (cs := [encL a]) rfl rfl (fun _ => ?_) | refine box_ rfl (cs := [encL b]) rfl rfl (fun _ => ?_) | refine call1 rfl hA ?_ | refine call1 rfl hB ?_ | refine call1 rfl hSa ?_ | refine call1 rfl hSb ?_ | refine w_seq ?_ | refine w_ops ?_ | refine w_opsD0 rfl ?_ | refine st_nil ?_ | refine th_n ?_ | refine th_r ?_ | refine w_ret ?_ | refine w_true rfl ?_ | refine g_yes rfl ?_ | refine mv_c rfl ?_ | refine pick_f rfl rfl ?_ | refine gtr_t rfl rfl (by omega) ?_ | refine not_ rfl ?_ | refine sub_in rfl rfl (by omega) ?_ | refine load_ptr rfl (by decide) rfl (Nat.le_of_ble_eq_true rfl) rfl ?_)
        exact fin_r rfl (by simp [one_, join, hle, encL])
end Go.Proofs.Ytcmejdkjfekoeaa
namespace Go.Proofs.Ytcmejdkjfekoeaa
open Go.Pl Go.Bag
set_option maxHeartbeats 4000000
theorem minus_loop {C : CallP} {K : Ex → PS → Prop} (l : List Run) (hlen : l.length < 400000000) : ∀ (rest : List Run) (i : Nat) (out b : List Run) (es : List (List CV)) (s : PS), l.drop i = rest → i ≤ l.length → es = encE out → out.length + rest.length < 1000000000 → b.length < 400000000 →
    (∀ r ∈ rest, 1 ≤ r.2 ∧ r.2 ≤ 1099511627776) → (∀ r ∈ b, 1 ≤ r.2 ∧ r.2 ≤ 1099511627776) →
    s.t 17 = .c (encL l) → s.t 18 = .c (.int .i64 l.length) → s.t 19 = .c (.int .i64 i) → s.t 1 = .c (encL b) → s.t 6 = .osl 6 (s.bx 6).ver 0 es.length → s.bx 6 = ⟨(s.bx 6).ver, .sl 2 es⟩ →
    (∀ s' o b', minusL out rest b = some (o, b') → b'.length < 400000000 → s'.t 1 = .c (encL b') → s'.t 6 = .osl 6 (s'.bx 6).ver 0 (encE o).length → s'.bx 6 = ⟨(s'.bx 6).ver, .sl 2 (encE o)⟩ → K (.x 0) s') →
    (∀ s', minusL out rest b = none → s'.t 4 = .c (.sl []) → s'.t 5 = .c (.bool false) → K .r s') → wP C (.loop b24_0) s K := by
  intro rest
  induction rest with
  | nil =>
    intro i out b es s hd hi he hl hb ha1 hb1 t17 t18 t19 t1 t6 b6 hx hr
    refine w_loop ?_
    have := get_end hd hi
    subst this
    subst he
    generalize (s.bx 6).ver = v6 at t6 b6
    rw [← put_same t18, ← put_same t19, ← put_same t1, ← put_same t6, ← box_same b6]
    unfold b24_0 r24_5 r24_6 r24_7 r24_8 r24_9 r24_10 r24_11 r24_12 r24_13 r24_14
    repeat' (first | refine w_seq ?_ | refine w_ops ?_ | refine st_nil ?_ | refine th_n ?_ | refine th_x ?_ | refine w_exit ?_ | refine w_false rfl ?_ | refine lss_f rfl rfl (by omega) ?_)
    exact hx _ out b rfl hb (by rfl) (by rfl) (by rfl)
  | cons r rest ih =>
    intro i out b es s hd hi he hl hb ha1 hb1 t17 t18 t19 t1 t6 b6 hx hr
    refine w_loop ?_
    have hget := get_enc hd
    have hil := get_len hd
    have hn := get_next hd
    have hr1 := ha1 r (by simp)
    have ha1' : ∀ q ∈ rest, 1 ≤ q.2 ∧ q.2 ≤ 1099511627776 := fun q hq => ha1 q (by simp [hq])
    have hlr : (r :: rest).length = rest.length + 1 := rfl
    have hgrow : ∀ q : List CV, es.length + [q].length ≤ maxGrow := fun q => by
      subst he; simp [encE, maxGrow]; omega
    have hzs : ∀ n, es ++ [[.int .i64 r.1, .int .i64 n]] = encE (out ++ [(r.1, n)]) := fun n => by subst he; simp [encE, encR]
    generalize (s.bx 6).ver = v6 at t6 b6
    rw [← put_same t17, ← put_same t18, ← put_same t19, ← put_same t1, ← put_same t6, ← box_same b6]
    unfold b24_0 r24_5 r24_6 r24_7 r24_8 r24_9 r24_10 r24_11 r24_12 r24_13 r24_14
    match b, hb, hb1 with
    | [], hb, hb1 =>
      have e : minusL out (r :: rest) [] = minusL (out ++ [(r.1, r.2)]) rest [] := by
        have : ¬ r.2 < 0 := by omega
        have : 0 < r.2 := by omega
        simp [minusL, takeB, *]
      rw [e] at hx hr
      repeat' (first | refine len_sl (es := ([] : List Run).map encR) rfl rfl ?_ | refine app_own rfl rfl rfl rfl (hgrow _) (by intro e he; cases List.mem_singleton.mp he; rfl) rfl rfl (fun _ _ => ?_) | refine w_seq ?_ | refine w_ops ?_ | refine w_opsD0 rfl ?_ | refine st_nil ?_ | refine th_n ?_ | refine bk_n ?_ | refine w_block ?_ | refine w_skip ?_ | refine w_true rfl ?_ | refine w_false rfl ?_ | refine g_no rfl ?_ | refine mv_c rfl ?_ | refine mv_osl rfl ?_ | refine pick_f rfl rfl ?_ | refine lss_t rfl rfl (by omega) ?_ | refine lss_f rfl rfl (by omega) ?_ | refine gtr_t rfl rfl (by omega) ?_ | refine gtr_ rfl rfl ?_ | refine add_in rfl rfl (by omega) ?_ | refine alloc_ (fun u => ?_) | refine bsl_ rfl rfl ?_ | refine load_rp rfl (Nat.le_of_ble_eq_true rfl) rfl ?_ | refine load_ptr rfl (by decide) rfl (Nat.le_of_ble_eq_true rfl) rfl ?_ | refine store_ptr rfl rfl (by decide) rfl rfl (Nat.le_of_ble_eq_true rfl) rfl ?_ | refine fad_ptr rfl rfl rfl ?_ | refine iaS_c rfl rfl (by omega) (by assumption) rfl ?_ | refine w_rn rfl (by decide) rfl rfl (fun _ _ => ?_))
      exact ih (i + 1) (out ++ [(r.1, r.2)]) [] _ _ hn (by omega) (hzs r.2) (by simp; omega) hb ha1' hb1 (by rfl) (by rfl) (by rfl) (by rfl) (by rfl) (by rfl) hx hr
    | q :: b', hb, hb1 =>
      have hq1 := hb1 q (by simp)
      have hb1' : ∀ q ∈ b', 1 ≤ q.2 ∧ q.2 ≤ 1099511627776 := fun p hp => hb1 p (by simp [hp])
      have hb' : b'.length < 400000000 := by simp at hb; omega
      have h0 : ((q :: b').map encR)[(0 : Int).toNat]? = some (encR q) := rfl
      have hp : 0 < (q :: b').length := by simp
      by_cases hv : q.1 = r.1
      · have e : minusL out (r :: rest) (q :: b') = if r.2 - q.2 < 0 then none else minusL (if 0 < r.2 - q.2 then out ++ [(r.1, r.2 - q.2)] else out) rest b' := by
          simp only [minusL, takeB, hv, if_true]
        repeat' (first | refine slc_tail (es := b'.map encR) rfl (encR_len (q :: b')) ?_ | refine app_own rfl rfl rfl rfl (hgrow _) (by intro e he; cases List.mem_singleton.mp he; rfl) rfl rfl (fun _ _ => ?_) | refine w_seq ?_ | refine w_ops ?_ | refine w_opsD0 rfl ?_ | refine st_nil ?_ | refine th_n ?_ | refine th_r ?_ | refine bk_n ?_ | refine bk_r ?_ | refine w_block ?_ | refine w_skip ?_ | refine w_ret ?_ | refine w_true rfl ?_ | refine w_condd rfl (fun hc => ?_) (fun hc => ?_) | refine g_yes rfl ?_ | refine mv_c rfl ?_ | refine mv_osl rfl ?_ | refine pick_t rfl rfl ?_ | refine lss_t rfl rfl (by omega) ?_ | refine lss_ rfl rfl ?_ | refine gtr_t rfl rfl (by omega) ?_ | refine gtr_ rfl rfl ?_ | refine eql_t rfl rfl (by omega) ?_ | refine add_in rfl rfl (by omega) ?_ | refine sub_in rfl rfl (by omega) ?_ | refine alloc_ (fun u => ?_) | refine bsl_ rfl rfl ?_ | refine load_rp rfl (Nat.le_of_ble_eq_true rfl) rfl ?_ | refine load_ptr rfl (by decide) rfl (Nat.le_of_ble_eq_true rfl) rfl ?_ | refine store_ptr rfl rfl (by decide) rfl rfl (Nat.le_of_ble_eq_true rfl) rfl ?_ | refine fad_ptr rfl rfl rfl ?_ | refine fad_rp rfl (Nat.le_of_ble_eq_true rfl) rfl ?_ | refine iaS_c rfl rfl (by omega) (by assumption) rfl ?_ | refine len_sl rfl (by first | assumption | exact List.length_map _) ?_ | refine w_rn_same rfl ?_ | refine w_rn rfl (by decide) rfl rfl (fun _ _ => ?_))
        · rw [if_pos hc] at e
          exact hr _ e rfl rfl
        · rw [if_neg ‹¬ (r.2 - q.2 < 0)›, if_pos hc] at e
          rw [e] at hx hr
          exact ih (i + 1) (out ++ [(r.1, r.2 - q.2)]) b' _ _ hn (by omega) (hzs (r.2 - q.2)) (by simp; omega) hb' ha1' hb1' (by rfl) (by rfl) (by rfl) (by rfl) (by rfl) (by rfl) hx hr
        · rw [if_neg ‹¬ (r.2 - q.2 < 0)›, if_neg hc] at e
          rw [e] at hx hr
          exact ih (i + 1) out b' es _ hn (by omega) he (by omega) hb' ha1' hb1' (by rfl) (by rfl) (by rfl) (by rfl) (by rfl) (by rfl) hx hr
      · have e : minusL out (r :: rest) (q :: b') = minusL (out ++ [(r.1, r.2)]) rest (q :: b') := by
          have h1 : ¬ r.2 < 0 := by omega
          have h2 : 0 < r.2 := by omega
          simp only [minusL, takeB, if_neg hv, if_neg h1, if_pos h2]
        rw [e] at hx hr
        repeat' (first | refine app_own rfl rfl rfl rfl (hgrow _) (by intro e he; cases List.mem_singleton.mp he; rfl) rfl rfl (fun _ _ => ?_) | refine w_seq ?_ | refine w_ops ?_ | refine w_opsD0 rfl ?_ | refine st_nil ?_ | refine th_n ?_ | refine bk_n ?_ | refine w_block ?_ | refine w_skip ?_ | refine w_true rfl ?_ | refine w_false rfl ?_ | refine g_yes rfl ?_ | refine mv_c rfl ?_ | refine mv_osl rfl ?_ | refine pick_t rfl rfl ?_ | refine lss_t rfl rfl (by omega) ?_ | refine lss_f rfl rfl (by omega) ?_ | refine gtr_t rfl rfl (by omega) ?_ | refine eql_f rfl rfl (by omega) ?_ | refine add_in rfl rfl (by omega) ?_ | refine alloc_ (fun u => ?_) | refine bsl_ rfl rfl ?_ | refine load_rp rfl (Nat.le_of_ble_eq_true rfl) rfl ?_ | refine load_ptr rfl (by decide) rfl (Nat.le_of_ble_eq_true rfl) rfl ?_ | refine store_ptr rfl rfl (by decide) rfl rfl (Nat.le_of_ble_eq_true rfl) rfl ?_ | refine fad_ptr rfl rfl rfl ?_ | refine fad_rp rfl (Nat.le_of_ble_eq_true rfl) rfl ?_ | refine iaS_c rfl rfl (by omega) (by assumption) rfl ?_ | refine len_sl rfl (by first | assumption | exact List.length_map _) ?_ | refine w_rn rfl (by decide) rfl rfl (fun _ _ => ?_))
        exact ih (i + 1) (out ++ [(r.1, r.2)]) (q :: b') _ _ hn (by omega) (hzs r.2) (by simp; omega) hb ha1' hb1 (by rfl) (by rfl) (by rfl) (by rfl) (by rfl) (by rfl) hx hr
theorem C_Minus (a b : List Run) (ha : a.length < 400000000) (hb : b.length < 400000000) : PCallG Try.prog 24 [.c (encL a), .c (encL b)] (.c (.tup [encL (minus a b).1, .bool (minus a b).2])) [] := by
  refine pcallF Try.func24 c24 rfl ?_
  unfold p24 r24_0 r24_1 r24_2 r24_3 r24_4 r24_15 r24_16 r24_17
  have hA := C_good a (by omega)
  have hB := C_good b (by omega)
  cases ga : good a with
  | false =>
    rw [ga] at hA
    repeat' (first | refine call1 rfl hA ?_ | refine w_seq ?_ | refine w_ops ?_ | refine st_nil ?_ | refine th_n ?_ | refine th_r ?_ | refine w_ret ?_ | refine w_true rfl ?_ | refine g_no rfl ?_ | refine mv_c rfl ?_ | refine pick_t rfl rfl ?_ | refine not_ rfl ?_)
    exact fin_r rfl (by simp [one_, minus, ga, encL])
  | true =>
    rw [ga] at hA
    obtain ⟨pa, sa⟩ := good_facts ga
    cases gb : good b with
    | false =>
      rw [gb] at hB
      repeat' (first | refine call1 rfl hA ?_ | refine call1 rfl hB ?_ | refine w_seq ?_ | refine w_ops ?_ | refine st_nil ?_ | refine th_n ?_ | refine th_r ?_ | refine w_ret ?_ | refine w_true rfl ?_ | refine g_yes rfl ?_ | refine mv_c rfl ?_ | refine pick_f rfl rfl ?_ | refine not_ rfl ?_)
      exact fin_r rfl (by simp [one_, minus, gb, encL])
    | true =>
      rw [gb] at hB
      obtain ⟨pb, sb⟩ := good_facts gb
      have sa' : sum a ≤ 1099511627776 := sa
      have sb' : sum b ≤ 1099511627776 := sb
      repeat' (first | refine call1 rfl hA ?_ | refine call1 rfl hB ?_ | refine w_seq ?_ | refine w_ops ?_ | refine st_nil ?_ | refine th_n ?_ | refine w_block ?_ | refine w_skip ?_ | refine w_false rfl ?_ | refine g_yes rfl ?_ | refine mv_c rfl ?_ | refine pick_f rfl rfl ?_ | refine not_ rfl ?_ | refine own0_ (fun u => ?_) | refine len_sl rfl (by first | assumption | exact List.length_map _) ?_)
      refine minus_loop a ha a 0 [] b [] _ rfl (by omega) rfl (by simp; omega) hb (fun r hr => by have := le_sum pa r hr; omega) (fun r hr => by have := le_sum pb r hr; omega) (by rfl) (by rfl) (by rfl) (by rfl) (by rfl) (by rfl) ?_ ?_
      · intro s' o b' hm hb'l t1 t6 b6
        generalize (s'.bx 6).ver = v6 at t6 b6
        rw [← put_same t1, ← put_same t6, ← box_same b6]
        cases b' with
        | nil =>
          repeat' (first | refine len_sl (es := ([] : List Run).map encR) rfl rfl ?_ | refine w_seq ?_ | refine w_ops ?_ | refine st_nil ?_ | refine th_n ?_ | refine bk_x ?_ | refine w_skip ?_ | refine w_ret ?_ | refine w_false rfl ?_ | refine mv_c rfl ?_ | refine mv_osl rfl ?_ | refine gtr_ rfl rfl ?_)
          refine fin_r (rv_own rfl rfl rfl (rv_t rfl rv_nil)) ?_
          simp [one_, minus, ga, gb, hm, encL, encE]
        | cons q b' =>
          have hp : 0 < (q :: b').length := by simp
          repeat' (first | refine w_seq ?_ | refine w_ops ?_ | refine st_nil ?_ | refine th_n ?_ | refine th_r ?_ | refine bk_x ?_ | refine w_ret ?_ | refine w_true rfl ?_ | refine mv_c rfl ?_ | refine gtr_t rfl rfl (by omega) ?_ | refine len_sl rfl (by first | assumption | exact List.length_map _) ?_)
          refine fin_r rfl ?_
          simp [one_, minus, hm, encL]
      · intro s' hm t4 t5
        rw [← put_same t4, ← put_same t5]
        repeat' (first | refine th_r ?_ | refine bk_r ?_)
        refine fin_r rfl ?_
        simp [one_, minus, hm, encL]
end Go.Proofs.Ytcmejdkjfekoeaa
namespace Go.Proofs.Ytcmejdkjfekoeaa
open Go.Pl Go.Bag
set_option maxHeartbeats 4000000
theorem has_loop {C : CallP} {K : Ex → PS → Prop} (l : List Run) (v : Int) (hlen : l.length < 4611686018427387904) : ∀ (rest : List Run) (i : Nat) (s : PS), l.drop i = rest → i ≤ l.length →
    s.t 1 = .c (.int .i64 v) → s.t 10 = .c (encL l) → s.t 11 = .c (.int .i64 l.length) → s.t 12 = .c (.int .i64 i) →
    ((∀ r ∈ rest, r.1 ≠ v) → ∀ s', K (.x 0) s') → (∀ s' r, rest.find? (fun r => r.1 == v) = some r → s'.t 4 = .c (.int .i64 r.2) → K .r s') → wP C (.loop b30_0) s K := by
  intro rest
  induction rest with
  | nil =>
    intro i s hd hi t1 t10 t11 t12 hx hr
    refine w_loop ?_
    have := get_end hd hi
    subst this
    rw [← put_same t11, ← put_same t12]
    unfold b30_0 r30_4 r30_5 r30_6 r30_7 r30_8
    repeat' (first | refine w_seq ?_ | refine w_ops ?_ | refine st_nil ?_ | refine th_n ?_ | refine th_x ?_ | refine w_exit ?_ | refine w_false rfl ?_ | refine lss_f rfl rfl (by omega) ?_)
    exact hx (by simp) _
  | cons r rest ih =>
    intro i s hd hi t1 t10 t11 t12 hx hr
    refine w_loop ?_
    have he := get_enc hd
    have hl := get_len hd
    have hn := get_next hd
    rw [← put_same t1, ← put_same t10, ← put_same t11, ← put_same t12]
    unfold b30_0 r30_4 r30_5 r30_6 r30_7 r30_8
    repeat' (first | refine w_seq ?_ | refine w_ops ?_ | refine st_nil ?_ | refine th_n ?_ | refine th_r ?_ | refine bk_n ?_ | refine bk_r ?_ | refine w_block ?_ | refine w_skip ?_ | refine w_ret ?_ | refine w_true rfl ?_ | refine w_condd rfl (fun hc => ?_) (fun hc => ?_) | refine mv_c rfl ?_ | refine lss_t rfl rfl (by omega) ?_ | refine eqd_ rfl rfl ?_ | refine add_in rfl rfl (by omega) ?_ | refine alloc_ (fun u => ?_) | refine load_rp rfl (Nat.le_of_ble_eq_true rfl) rfl ?_ | refine load_ptr rfl (by decide) rfl (Nat.le_of_ble_eq_true rfl) rfl ?_ | refine store_ptr rfl rfl (by decide) rfl rfl (Nat.le_of_ble_eq_true rfl) rfl ?_ | refine fad_ptr rfl rfl rfl ?_ | refine iaS_c rfl rfl (by omega) (by assumption) rfl ?_)
    · exact hr _ r (by simp [List.find?, hc]) rfl
    · refine ih (i + 1) _ hn (by omega) rfl rfl rfl rfl (fun h => hx (fun q hq => ?_)) (fun s' q hq h => hr s' q ?_ h)
      · rcases List.mem_cons.mp hq with rfl | hq
        · exact hc
        · exact h q hq
      · have : (r.1 == v) = false := by simpa using hc
        simp [List.find?, this, hq]
theorem C_Has (l : List Run) (v : Int) (hlen : l.length < 4611686018427387904) : PCallG Try.prog 30 [.c (encL l), .c (.int .i64 v)] (.c (.int .i64 (if good l then has l v else 0))) [] := by
  refine pcallF Try.func30 c30 rfl ?_
  unfold p30 r30_0 r30_1 r30_2 r30_3 r30_9
  by_cases hg : good l = true
  · have hC := C_good l hlen
    rw [hg] at hC
    repeat' (first | refine call1 rfl hC ?_ | refine w_seq ?_ | refine w_ops ?_ | refine st_nil ?_ | refine th_n ?_ | refine w_block ?_ | refine w_skip ?_ | refine w_false rfl ?_ | refine mv_c rfl ?_ | refine not_ rfl ?_ | refine len_sl rfl (by first | assumption | exact List.length_map _) ?_)
    refine has_loop l v hlen l 0 _ rfl (by omega) rfl rfl rfl rfl (fun h s' => ?_) (fun s' r h h4 => ?_)
    · repeat' (first | refine w_seq ?_ | refine w_ops ?_ | refine st_nil ?_ | refine th_n ?_ | refine bk_x ?_ | refine w_ret ?_ | refine mv_c rfl ?_)
      refine fin_r rfl ?_
      have : l.find? (fun r => r.1 == v) = none := by simpa using h
      simp [one_, hg, has, this]
    · rw [← put_same h4]
      repeat' (first | refine th_r ?_ | refine bk_r ?_)
      exact fin_r rfl (by simp [one_, hg, has, h])
  · simp only [Bool.not_eq_true] at hg
    have hC := C_good l hlen
    rw [hg] at hC
    repeat' (first | refine call1 rfl hC ?_ | refine w_seq ?_ | refine w_ops ?_ | refine st_nil ?_ | refine th_n ?_ | refine th_r ?_ | refine w_ret ?_ | refine w_true rfl ?_ | refine mv_c rfl ?_ | refine not_ rfl ?_)
    exact fin_r rfl (by simp [one_, hg])
def tup2 (p : Int × Bool) : CV := .tup [.int .i64 p.1, .bool p.2]
end Go.Proofs.Ytcmejdkjfekoeaa
namespace Go.Proofs.Ytcmejdkjfekoeaa
open Go.Pl Go.Bag
set_option maxHeartbeats 8000000
end Go.Proofs.Ytcmejdkjfekoeaa
namespace Go.Proofs.Ytcmejdkjfekoeaa
open Go.Pl Go.Bag
set_option maxHeartbeats 8000000
end Go.Proofs.Ytcmejdkjfekoeaa
namespace Go.Proofs.Ytcmejdkjfekoeaa
open Go.Pl Go.Bag
set_option maxHeartbeats 8000000
theorem good_one {v n : Int} (h : 1 ≤ n ∧ n ≤ 1099511627776) : good [(v, n)] = true :=
  good_iff.mpr ⟨by simp [asc], fun q hq => by simp at hq; subst hq; exact h.1, by simp [sum, cap]; exact h.2⟩
theorem ok_i64 {c : CV} (h : LF.Ok (.int .i64) c) : ∃ a, c = .int .i64 a ∧ I64 a := by
  cases h with
  | int _ a hw => exact ⟨a, rfl, by simpa [Lit.wf, IntKind.min, IntKind.max, IntKind.signed, IntKind.bits, I64] using hw⟩
end Go.Proofs.Ytcmejdkjfekoeaa
namespace Go.Proofs.Ytcmejdkjfekoeaa
open Go.Pl Go.Bag
theorem get_slen {α : Type} {l : List α} {i : Nat} {a : α} {rest : List α} (hd : l.drop i = a :: rest) : i < l.length := by
  have := congrArg List.length hd; simp at this; omega
theorem ok_u8 {c : CV} (h : LF.Ok (.int .u8) c) : ∃ a, c = .int .u8 a ∧ 0 ≤ a ∧ a ≤ 255 := by
  cases h with
  | int _ a hw => exact ⟨a, rfl, by simpa [Lit.wf, IntKind.min, IntKind.max, IntKind.signed, IntKind.bits] using hw⟩
theorem ok_bool {c : CV} (h : LF.Ok .bool c) : ∃ b, c = .bool b := by
  cases h with
  | bool b => exact ⟨b, rfl⟩
end Go.Proofs.Ytcmejdkjfekoeaa
namespace Go.Proofs.Ytcmejdkjfekoeaa
open Go.Pl
set_option maxHeartbeats 4000000
theorem C_rSize (a : Int) (ha : I64 a) : PCallG Try.prog 123 [.c (.int .i64 a)] (.c (.int .u64 (absI a))) [] := by
  obtain ⟨h1, h2⟩ := ha
  refine pcallF Try.func123 c123 rfl ?_
  unfold p123 r123_0 r123_1 r123_2 r123_3
  by_cases h : a < 0
  · repeat' (first | refine w_seq ?_ | refine w_ops ?_ | refine st_nil ?_ | refine th_n ?_ | refine th_r ?_ | refine w_ret ?_ | refine w_true rfl ?_ | refine mv_c rfl ?_ | refine lss_t rfl rfl (by omega) ?_ | refine addu_in rfl rfl (by omega) ?_ | refine conv_in rfl (wrapu_in (by omega)) ?_ | refine neg_in rfl (by omega) ?_ | refine add_in rfl rfl (by omega) ?_)
    refine fin_r rfl ?_
    simp only [one_, absI, if_pos h]
    congr 1
    omega
  · repeat' (first | refine w_seq ?_ | refine w_ops ?_ | refine st_nil ?_ | refine th_n ?_ | refine w_skip ?_ | refine w_ret ?_ | refine w_false rfl ?_ | refine mv_c rfl ?_ | refine lss_f rfl rfl (by omega) ?_ | refine conv_in rfl (wrapu_in (by omega)) ?_)
    exact fin_r rfl (by simp [one_, absI, h])
end Go.Proofs.Ytcmejdkjfekoeaa
namespace Go.Proofs.Ytcmejdkjfekoeaa
open Go.Pl Go.Bag
set_option maxHeartbeats 8000000
end Go.Proofs.Ytcmejdkjfekoeaa
namespace Go.Proofs.Ytcmejdkjfekoeaa
open Go.Pl Go.Bag
set_option maxHeartbeats 4000000
end Go.Proofs.Ytcmejdkjfekoeaa
namespace Go.Proofs.Ytcmejdkjfekoeaa
open Go.Pl Go.Bag
set_option maxHeartbeats 4000000
end Go.Proofs.Ytcmejdkjfekoeaa
namespace Go.Proofs.Ytcmejdkjfekoeaa
open Go.Pl Go.Bag
set_option maxHeartbeats 8000000
end Go.Proofs.Ytcmejdkjfekoeaa
namespace Go.Proofs.Ytcmejdkjfekoeaa
open Go.Pl Go.Bag
set_option maxHeartbeats 8000000
/-! ### the document's wide numbers: sign, high part, low part -/
end Go.Proofs.Ytcmejdkjfekoeaa
namespace Go.Proofs.Ytcmejdkjfekoeaa
open Go.Pl Go.Bag
set_option maxHeartbeats 8000000
end Go.Proofs.Ytcmejdkjfekoeaa
namespace Go.Proofs.Ytcmejdkjfekoeaa
open Go.Pl Go.Bag
set_option maxHeartbeats 8000000
theorem C_Add (a b : Int) (ha : I64 a) (hb : I64 b) : PCallG Try.prog 96 [.c (.int .i64 a), .c (.int .i64 b)] (.c (if I64 (a + b) then .tup [.int .i64 (a + b), .bool true] else .tup [.int .i64 0, .bool false])) [] := by
  refine pcallF Try.func96 c96 rfl ?_
  have c1 := C_Total [a, b] (by simp) (fun x hx => by simp at hx; rcases hx with rfl | rfl <;> assumption)
  have e : totI [a, b] = a + b := by simp [totI]
  unfold totB at c1
  rw [e] at c1
  unfold p96 r96_0 r96_1
  by_cases h : I64 (a + b)
  · rw [if_pos h] at c1 ⊢
    repeat' (first | refine call1 rfl c1 ?_ | refine w_seq ?_ | refine w_ops ?_ | refine st_nil ?_ | refine th_n ?_ | refine w_ret ?_ | refine mv_c rfl ?_ | refine bsl_ rfl rfl ?_ | refine ext_ rfl rfl ?_)
    exact fin_r rfl rfl
  · rw [if_neg h] at c1 ⊢
    repeat' (first | refine call1 rfl c1 ?_ | refine w_seq ?_ | refine w_ops ?_ | refine st_nil ?_ | refine th_n ?_ | refine w_ret ?_ | refine mv_c rfl ?_ | refine bsl_ rfl rfl ?_ | refine ext_ rfl rfl ?_)
    exact fin_r rfl rfl
theorem C_measures (m : Int) : PCallG Try.prog 94 [.c (.int .i64 m)] (.c (.bool (decide (1 ≤ m ∧ m ≤ 2)))) [] := by
  refine pcallF Try.func94 c94 rfl ?_
  unfold p94 r94_0 r94_1
  by_cases h1 : 1 ≤ m
  · by_cases h2 : m ≤ 2
    · rw [decide_eq_true (by omega)]
      repeat' (first | refine w_seq ?_ | refine w_ops ?_ | refine st_nil ?_ | refine th_n ?_ | refine w_ret ?_ | refine g_yes rfl ?_ | refine mv_c rfl ?_ | refine pick_t rfl rfl ?_ | refine leq_t rfl rfl (by omega) ?_ | refine geq_t rfl rfl (by omega) ?_)
      exact fin_r rfl rfl
    · rw [decide_eq_false (by omega)]
      repeat' (first | refine w_seq ?_ | refine w_ops ?_ | refine st_nil ?_ | refine th_n ?_ | refine w_ret ?_ | refine g_yes rfl ?_ | refine mv_c rfl ?_ | refine pick_t rfl rfl ?_ | refine leq_f rfl rfl (by omega) ?_ | refine geq_t rfl rfl (by omega) ?_)
      exact fin_r rfl rfl
  · rw [decide_eq_false (by omega)]
    repeat' (first | refine w_seq ?_ | refine w_ops ?_ | refine st_nil ?_ | refine th_n ?_ | refine w_ret ?_ | refine g_no rfl ?_ | refine mv_c rfl ?_ | refine pick_f rfl rfl ?_ | refine geq_f rfl rfl (by omega) ?_)
    exact fin_r rfl rfl
end Go.Proofs.Ytcmejdkjfekoeaa
namespace Go.Proofs.Ytcmejdkjfekoeaa
open Go.Pl Go.Bag
set_option maxHeartbeats 16000000
theorem C_cGood (m : Int) (c : Cell) (hc : inC 1000000 c) : PCallG Try.prog 47 [.c (.int .i64 m), .c (encCell c)] (.c (.bool (goodC m c))) [] := by
  obtain ⟨n, s0, s1, b0, b1⟩ := c
  obtain ⟨hn, hs0, hs1, hr0, hr1, hl0, hl1⟩ := hc
  simp only at hn hs0 hs1 hr0 hr1 hl0 hl1
  show PCallG _ 47 [.c (.int .i64 m), .c (.agg [.int .i64 n, .int .i64 s0, .int .i64 s1, encL b0, encL b1])] _ _
  refine pcallF Try.func47 c47 rfl ?_
  have c1 := C_measures m
  have c2 := C_Sum b0 (by omega) hr0
  have c3 := C_Sum b1 (by omega) hr1
  have c4 := C_Count b0 (by omega)
  have c5 := C_Count b1 (by omega)
  -- what a measure's values come to, and what of it
  have key : ∀ (b : List Run) (s : Int), I64 s → (gM b s n = true ∧ sumB b = (s, true) ∧ (if good b = true then sum b else 0) = n) ∨
      (gM b s n = false ∧ ((sumB b).2 = false ∨ ((sumB b).2 = true ∧ (sumB b).1 ≠ s) ∨ ((sumB b).2 = true ∧ (sumB b).1 = s ∧ (if good b = true then sum b else 0) ≠ n))) := fun b s hs => by
    cases hg : good b with
    | false =>
      refine .inr ⟨by simp [gM, hg], .inl (by simp [sumB, hg])⟩
    | true =>
      by_cases hw : I64 (wsum b)
      · have e : sumB b = (wsum b, true) := by simp [sumB, hg, hw]
        rw [e]
        simp only [if_true]
        by_cases h1 : wsum b = s
        · by_cases h2 : sum b = n
          · exact .inl ⟨by simp [gM, hg, h1, h2], by rw [h1], h2⟩
          · exact .inr ⟨by simp [gM, h2], .inr (.inr ⟨trivial, h1, h2⟩)⟩
        · exact .inr ⟨by simp [gM, h1], .inr (.inl ⟨trivial, h1⟩)⟩
      · have e : sumB b = (0, false) := by simp [sumB, hw]
        refine .inr ⟨?_, .inl (by rw [e])⟩
        have : ¬ wsum b = s := fun h => hw (by rw [h]; exact hs)
        simp [gM, this]
  unfold p47 r47_0 r47_1 r47_2 r47_3 r47_13
  by_cases hm : 1 ≤ m ∧ m ≤ 2
  · rw [decide_eq_true hm] at c1
    by_cases hnn : 1 ≤ n ∧ n ≤ 1099511627776
    · have k0 := key b0 s0 hs0
      have k1 := key b1 s1 hs1
      generalize sumB b0 = q at c2 k0
      generalize sumB b1 = r at c3 k1
      obtain ⟨q1, q2⟩ := q
      obtain ⟨r1, r2⟩ := r
      generalize (if good b0 = true then sum b0 else 0) = g0 at c4 k0
      generalize (if good b1 = true then sum b1 else 0) = g1 at c5 k1
      rcases k0 with ⟨p1, p2, p3⟩ | ⟨p1, p2⟩
      · obtain ⟨rfl, rfl⟩ := Prod.mk.inj p2
        subst p3
        repeat' (first | refine call1 rfl c1 ?_ | refine w_seq ?_ | refine w_ops ?_ | refine st_nil ?_ | refine th_n ?_ | refine w_block ?_ | refine w_skip ?_ | refine w_false rfl ?_ | refine g_yes rfl ?_ | refine mv_c rfl ?_ | refine pick_f rfl rfl ?_ | refine lss_f rfl rfl (by omega) ?_ | refine gtr_f rfl rfl (by omega) ?_ | refine not_ rfl ?_ | refine box_ rfl rfl rfl (fun u => ?_) | refine load_ptr rfl (by decide) rfl (Nat.le_of_ble_eq_true rfl) rfl ?_ | refine fad_ptr rfl rfl rfl ?_)
        refine w_loop ?_
        unfold b47_0 r47_4 r47_5 r47_6 r47_7 r47_8 r47_9 r47_10 r47_11 r47_12
        repeat' (first | refine idA_ rfl rfl ⟨by omega, by omega, Nat.le_of_ble_eq_true rfl⟩ rfl ?_ | refine call1 rfl c2 ?_ | refine call1 rfl c4 ?_ | refine w_seq ?_ | refine w_ops ?_ | refine w_opsD0 rfl ?_ | refine st_nil ?_ | refine th_n ?_ | refine bk_n ?_ | refine w_block ?_ | refine w_skip ?_ | refine w_true rfl ?_ | refine w_false rfl ?_ | refine g_yes rfl ?_ | refine mv_c rfl ?_ | refine pick_f rfl rfl ?_ | refine lss_t rfl rfl (by omega) ?_ | refine geq_f rfl rfl (by omega) ?_ | refine neq_f rfl rfl (by omega) ?_ | refine not_ rfl ?_ | refine add_in rfl rfl (by omega) ?_ | refine load_ptr rfl (by decide) rfl (Nat.le_of_ble_eq_true rfl) rfl ?_ | refine fad_ptr rfl rfl rfl ?_ | refine iaA_ptr rfl rfl rfl (by omega) rfl ?_ | refine ext_ rfl rfl ?_)
        refine w_loop ?_
        by_cases hm2 : m = 2
        · rcases k1 with ⟨t1, t2, t3⟩ | ⟨t1, t2⟩
          · obtain ⟨rfl, rfl⟩ := Prod.mk.inj t2
            subst t3
            rw [goodC_iff.mpr ⟨hm, hnn, p1, by rw [if_pos hm2]; exact t1⟩]
            repeat' (first | refine idA_ rfl rfl ⟨by omega, by omega, Nat.le_of_ble_eq_true rfl⟩ rfl ?_ | refine call1 rfl c3 ?_ | refine call1 rfl c5 ?_ | refine w_seq ?_ | refine w_ops ?_ | refine w_opsD0 rfl ?_ | refine st_nil ?_ | refine th_n ?_ | refine bk_n ?_ | refine w_block ?_ | refine w_skip ?_ | refine w_true rfl ?_ | refine w_false rfl ?_ | refine g_yes rfl ?_ | refine mv_c rfl ?_ | refine pick_f rfl rfl ?_ | refine lss_t rfl rfl (by omega) ?_ | refine geq_f rfl rfl (by omega) ?_ | refine neq_f rfl rfl (by omega) ?_ | refine not_ rfl ?_ | refine add_in rfl rfl (by omega) ?_ | refine load_ptr rfl (by decide) rfl (Nat.le_of_ble_eq_true rfl) rfl ?_ | refine fad_ptr rfl rfl rfl ?_ | refine iaA_ptr rfl rfl rfl (by omega) rfl ?_ | refine ext_ rfl rfl ?_)
            refine w_loop ?_
            repeat' (first | refine w_seq ?_ | refine w_ops ?_ | refine st_nil ?_ | refine th_n ?_ | refine th_x ?_ | refine bk_x ?_ | refine w_exit ?_ | refine w_ret ?_ | refine w_false rfl ?_ | refine mv_c rfl ?_ | refine lss_f rfl rfl (by omega) ?_)
            exact fin_r rfl rfl
          · have e : goodC m ⟨g0, q1, s1, b0, b1⟩ = false := by
              rw [Bool.eq_false_iff]; intro h
              have := (goodC_iff.mp h).2.2.2
              rw [if_pos hm2] at this
              rw [this] at t1; cases t1
            rw [e]
            simp only at t2
            rcases t2 with rfl | ⟨rfl, t2⟩ | ⟨rfl, rfl, t2⟩
            all_goals
              repeat' (first | refine idA_ rfl rfl ⟨by omega, by omega, Nat.le_of_ble_eq_true rfl⟩ rfl ?_ | refine call1 rfl c3 ?_ | refine call1 rfl c5 ?_ | refine w_seq ?_ | refine w_ops ?_ | refine w_opsD0 rfl ?_ | refine st_nil ?_ | refine th_n ?_ | refine th_r ?_ | refine bk_r ?_ | refine w_block ?_ | refine w_skip ?_ | refine w_ret ?_ | refine w_true rfl ?_ | refine w_false rfl ?_ | refine g_yes rfl ?_ | refine g_no rfl ?_ | refine mv_c rfl ?_ | refine pick_t rfl rfl ?_ | refine pick_f rfl rfl ?_ | refine lss_t rfl rfl (by omega) ?_ | refine geq_f rfl rfl (by omega) ?_ | refine neq_t rfl rfl (by omega) ?_ | refine neq_f rfl rfl (by omega) ?_ | refine not_ rfl ?_ | refine load_ptr rfl (by decide) rfl (Nat.le_of_ble_eq_true rfl) rfl ?_ | refine fad_ptr rfl rfl rfl ?_ | refine iaA_ptr rfl rfl rfl (by omega) rfl ?_ | refine ext_ rfl rfl ?_)
            all_goals exact fin_r rfl rfl
        · by_cases h1 : s1 = 0
          · cases b1 with
            | nil =>
              rw [goodC_iff.mpr ⟨hm, hnn, p1, by rw [if_neg hm2]; exact ⟨h1, rfl⟩⟩]
              repeat' (first | refine idA_ rfl rfl ⟨by omega, by omega, Nat.le_of_ble_eq_true rfl⟩ rfl ?_ | refine len_sl (es := []) rfl rfl ?_ | refine w_seq ?_ | refine w_ops ?_ | refine st_nil ?_ | refine th_n ?_ | refine th_x ?_ | refine bk_x ?_ | refine w_block ?_ | refine w_skip ?_ | refine w_exit ?_ | refine w_true rfl ?_ | refine w_false rfl ?_ | refine g_yes rfl ?_ | refine mv_c rfl ?_ | refine pick_f rfl rfl ?_ | refine lss_t rfl rfl (by omega) ?_ | refine gtr_ rfl rfl ?_ | refine geq_t rfl rfl (by omega) ?_ | refine neq_f rfl rfl (by omega) ?_ | refine add_in rfl rfl (by omega) ?_ | refine load_ptr rfl (by decide) rfl (Nat.le_of_ble_eq_true rfl) rfl ?_ | refine fad_ptr rfl rfl rfl ?_ | refine iaA_ptr rfl rfl rfl (by omega) rfl ?_)
              refine w_loop ?_
              repeat' (first | refine w_seq ?_ | refine w_ops ?_ | refine st_nil ?_ | refine th_n ?_ | refine th_x ?_ | refine bk_x ?_ | refine w_exit ?_ | refine w_ret ?_ | refine w_false rfl ?_ | refine mv_c rfl ?_ | refine lss_f rfl rfl (by omega) ?_)
              exact fin_r rfl rfl
            | cons x b1 =>
              have e : goodC m ⟨g0, q1, s1, b0, x :: b1⟩ = false := by
                rw [Bool.eq_false_iff]; intro h
                have := (goodC_iff.mp h).2.2.2
                rw [if_neg hm2] at this
                cases this.2
              rw [e]
              have hp : 0 < (x :: b1).length := by simp
              repeat' (first | refine idA_ rfl rfl ⟨by omega, by omega, Nat.le_of_ble_eq_true rfl⟩ rfl ?_ | refine len_sl rfl (List.length_map _) ?_ | refine w_seq ?_ | refine w_ops ?_ | refine st_nil ?_ | refine th_n ?_ | refine th_r ?_ | refine bk_r ?_ | refine w_block ?_ | refine w_skip ?_ | refine w_ret ?_ | refine w_true rfl ?_ | refine g_yes rfl ?_ | refine mv_c rfl ?_ | refine pick_f rfl rfl ?_ | refine lss_t rfl rfl (by omega) ?_ | refine gtr_t rfl rfl (by omega) ?_ | refine geq_t rfl rfl (by omega) ?_ | refine neq_f rfl rfl (by omega) ?_ | refine load_ptr rfl (by decide) rfl (Nat.le_of_ble_eq_true rfl) rfl ?_ | refine fad_ptr rfl rfl rfl ?_ | refine iaA_ptr rfl rfl rfl (by omega) rfl ?_)
              exact fin_r rfl rfl
          · have e : goodC m ⟨g0, q1, s1, b0, b1⟩ = false := by
              rw [Bool.eq_false_iff]; intro h
              have := (goodC_iff.mp h).2.2.2
              rw [if_neg hm2] at this
              exact h1 this.1
            rw [e]
            repeat' (first | refine idA_ rfl rfl ⟨by omega, by omega, Nat.le_of_ble_eq_true rfl⟩ rfl ?_ | refine w_seq ?_ | refine w_ops ?_ | refine st_nil ?_ | refine th_n ?_ | refine th_r ?_ | refine bk_r ?_ | refine w_block ?_ | refine w_skip ?_ | refine w_ret ?_ | refine w_true rfl ?_ | refine g_no rfl ?_ | refine mv_c rfl ?_ | refine pick_t rfl rfl ?_ | refine lss_t rfl rfl (by omega) ?_ | refine geq_t rfl rfl (by omega) ?_ | refine neq_t rfl rfl (by omega) ?_ | refine load_ptr rfl (by decide) rfl (Nat.le_of_ble_eq_true rfl) rfl ?_ | refine fad_ptr rfl rfl rfl ?_ | refine iaA_ptr rfl rfl rfl (by omega) rfl ?_)
            exact fin_r rfl rfl
      · have e : goodC m ⟨n, s0, s1, b0, b1⟩ = false := by
          rw [Bool.eq_false_iff]; intro h
          have := (goodC_iff.mp h).2.2.1
          simp only at this
          rw [this] at p1; cases p1
        rw [e]
        simp only at p2
        rcases p2 with rfl | ⟨rfl, p2⟩ | ⟨rfl, rfl, p2⟩
        all_goals
          repeat' (first | refine call1 rfl c1 ?_ | refine w_seq ?_ | refine w_ops ?_ | refine st_nil ?_ | refine th_n ?_ | refine w_block ?_ | refine w_skip ?_ | refine w_false rfl ?_ | refine g_yes rfl ?_ | refine mv_c rfl ?_ | refine pick_f rfl rfl ?_ | refine lss_f rfl rfl (by omega) ?_ | refine gtr_f rfl rfl (by omega) ?_ | refine not_ rfl ?_ | refine box_ rfl rfl rfl (fun u => ?_) | refine load_ptr rfl (by decide) rfl (Nat.le_of_ble_eq_true rfl) rfl ?_ | refine fad_ptr rfl rfl rfl ?_)
        all_goals refine w_loop ?_
        all_goals
          unfold b47_0 r47_4 r47_5 r47_6 r47_7 r47_8 r47_9 r47_10 r47_11 r47_12
        all_goals
          repeat' (first | refine idA_ rfl rfl ⟨by omega, by omega, Nat.le_of_ble_eq_true rfl⟩ rfl ?_ | refine call1 rfl c2 ?_ | refine call1 rfl c4 ?_ | refine w_seq ?_ | refine w_ops ?_ | refine w_opsD0 rfl ?_ | refine st_nil ?_ | refine th_n ?_ | refine th_r ?_ | refine bk_r ?_ | refine w_block ?_ | refine w_skip ?_ | refine w_ret ?_ | refine w_true rfl ?_ | refine w_false rfl ?_ | refine g_yes rfl ?_ | refine g_no rfl ?_ | refine mv_c rfl ?_ | refine pick_t rfl rfl ?_ | refine pick_f rfl rfl ?_ | refine lss_t rfl rfl (by omega) ?_ | refine geq_f rfl rfl (by omega) ?_ | refine neq_t rfl rfl (by omega) ?_ | refine neq_f rfl rfl (by omega) ?_ | refine not_ rfl ?_ | refine load_ptr rfl (by decide) rfl (Nat.le_of_ble_eq_true rfl) rfl ?_ | refine fad_ptr rfl rfl rfl ?_ | refine iaA_ptr rfl rfl rfl (by omega) rfl ?_ | refine ext_ rfl rfl ?_)
        all_goals exact fin_r rfl rfl
    · have e : goodC m ⟨n, s0, s1, b0, b1⟩ = false := by
        rw [Bool.eq_false_iff]; intro h
        exact hnn (goodC_iff.mp h).2.1
      rw [e]
      by_cases h1 : n < 1
      · repeat' (first | refine call1 rfl c1 ?_ | refine w_seq ?_ | refine w_ops ?_ | refine st_nil ?_ | refine th_n ?_ | refine th_r ?_ | refine w_ret ?_ | refine w_true rfl ?_ | refine g_yes rfl ?_ | refine g_no rfl ?_ | refine mv_c rfl ?_ | refine pick_t rfl rfl ?_ | refine pick_f rfl rfl ?_ | refine lss_t rfl rfl (by omega) ?_ | refine not_ rfl ?_ | refine box_ rfl rfl rfl (fun u => ?_) | refine load_ptr rfl (by decide) rfl (Nat.le_of_ble_eq_true rfl) rfl ?_ | refine fad_ptr rfl rfl rfl ?_)
        exact fin_r rfl rfl
      · repeat' (first | refine call1 rfl c1 ?_ | refine w_seq ?_ | refine w_ops ?_ | refine st_nil ?_ | refine th_n ?_ | refine th_r ?_ | refine w_ret ?_ | refine w_true rfl ?_ | refine g_yes rfl ?_ | refine mv_c rfl ?_ | refine pick_f rfl rfl ?_ | refine lss_f rfl rfl (by omega) ?_ | refine gtr_t rfl rfl (by omega) ?_ | refine not_ rfl ?_ | refine box_ rfl rfl rfl (fun u => ?_) | refine load_ptr rfl (by decide) rfl (Nat.le_of_ble_eq_true rfl) rfl ?_ | refine fad_ptr rfl rfl rfl ?_)
        exact fin_r rfl rfl
  · rw [decide_eq_false hm] at c1
    have e : goodC m ⟨n, s0, s1, b0, b1⟩ = false := by
      rw [Bool.eq_false_iff]; intro h
      exact hm (goodC_iff.mp h).1
    rw [e]
    repeat' (first | refine call1 rfl c1 ?_ | refine w_seq ?_ | refine w_ops ?_ | refine st_nil ?_ | refine th_n ?_ | refine th_r ?_ | refine w_ret ?_ | refine w_true rfl ?_ | refine g_no rfl ?_ | refine mv_c rfl ?_ | refine pick_t rfl rfl ?_ | refine not_ rfl ?_ | refine box_ rfl rfl rfl (fun u => ?_))
    exact fin_r rfl rfl
end Go.Proofs.Ytcmejdkjfekoeaa
namespace Go.Proofs.Ytcmejdkjfekoeaa
open Go.Pl Go.Bag
set_option maxHeartbeats 16000000
def inR (r : RowS) : Prop := in64 r.m0 ∧ in64 r.m1
def mv (i : Int) (r : RowS) : Int := if i = 0 then r.m0 else r.m1
theorem get_row {l : List RowS} {i : Nat} {x : RowS} {rest : List RowS} (hd : l.drop i = x :: rest) : (l.map encRow)[i]? = some (encRow x) := by
  have : l[i]? = some x := by have := congrArg List.head? hd; simpa [List.head?_drop] using this
  simp [this]
theorem drop_len {α : Type} {l : List α} {i : Nat} {a : α} {rest : List α} (hd : l.drop i = a :: rest) : i < l.length := by
  have := congrArg List.length hd; simp at this; omega
theorem drop_next {α : Type} {l : List α} {i : Nat} {a : α} {rest : List α} (hd : l.drop i = a :: rest) : l.drop (i + 1) = rest := by
  have := congrArg List.tail hd; simpa [List.tail_drop] using this
theorem drop_end {α : Type} {l : List α} {i : Nat} (hd : l.drop i = []) (hi : i ≤ l.length) : i = l.length := by
  have := List.drop_eq_nil_iff.mp hd; omega
theorem vals_loop {C : CallP} {K : Ex → PS → Prop} (l : List RowS) (hlen : l.length ≤ 1000) (m : Int) (hm : m = 0 ∨ m = 1) (v0 v1 v25 v26 v6 v4 : PV) (x6 x4 : Box) : ∀ (rest : List RowS) (k : Nat) (out : List Int) (s : PS), l.drop k = rest → k ≤ l.length → out.length ≤ k →
    s.t 29 = .c (encRows l) → s.t 30 = .c (.int .i64 l.length) → s.t 31 = .c (.int .i64 k) → s.t 7 = .c (.int .i64 m) → s.t 8 = .osl 8 (s.bx 8).ver 0 (out.map encI).length → s.bx 8 = ⟨(s.bx 8).ver, .sl 1 (out.map encI)⟩ →
    s.t 0 = v0 → s.t 1 = v1 → s.t 25 = v25 → s.t 26 = v26 → s.t 6 = v6 → s.t 4 = v4 → s.bx 6 = x6 → s.bx 4 = x4 →
    (∀ s' v, s'.t 7 = .c (.int .i64 m) → s'.t 8 = .osl 8 v 0 ((out ++ rest.map (mv m)).map encI).length → s'.bx 8 = ⟨v, .sl 1 ((out ++ rest.map (mv m)).map encI)⟩ → s'.t 0 = v0 → s'.t 1 = v1 → s'.t 25 = v25 → s'.t 26 = v26 → s'.t 6 = v6 → s'.t 4 = v4 → s'.bx 6 = x6 → s'.bx 4 = x4 → K (.x 2) s') → wP C (.loop b45_1) s K := by
  intro rest
  induction rest with
  | nil =>
    intro k out s hd hk ho t29 t30 t31 t7 t8 b8 t0 t1 t25 t26 t6 t4 b6 b4 hx
    refine w_loop ?_
    have hk' := drop_end hd hk
    subst hk'
    generalize (s.bx 8).ver = v8 at t8 b8
    rw [← put_same t29, ← put_same t30, ← put_same t31, ← put_same t7, ← put_same t8, ← put_same t0, ← put_same t1, ← put_same t25, ← put_same t26, ← put_same t6, ← put_same t4, ← box_same b8, ← box_same b6, ← box_same b4]
    unfold b45_1 r45_9 r45_10 r45_11 r45_12
    repeat' (first | refine w_seq ?_ | refine w_ops ?_ | refine st_nil ?_ | refine th_n ?_ | refine th_x ?_ | refine w_exit ?_ | refine w_false rfl ?_ | refine lss_f rfl rfl (by omega) ?_)
    exact hx _ _ rfl (by simp only [List.map_nil, List.append_nil]; rfl) (by simp only [List.map_nil, List.append_nil]; rfl) rfl rfl rfl rfl rfl rfl rfl rfl
  | cons r rest ih =>
    intro k out s hd hk ho t29 t30 t31 t7 t8 b8 t0 t1 t25 t26 t6 t4 b6 b4 hx
    refine w_loop ?_
    have he := get_row hd
    have hkl := drop_len hd
    have hn := drop_next hd
    have z1 : ∀ q : List CV, (out.map encI).length + [q].length ≤ maxGrow := fun q => by simp [maxGrow]; omega
    have e : ∀ a : Int, out.map encI ++ [[CV.int .i64 a]] = (out ++ [a]).map encI := fun a => by simp [encI]
    generalize (s.bx 8).ver = v8 at t8 b8
    rw [← put_same t29, ← put_same t30, ← put_same t31, ← put_same t7, ← put_same t8, ← put_same t0, ← put_same t1, ← put_same t25, ← put_same t26, ← put_same t6, ← put_same t4, ← box_same b8, ← box_same b6, ← box_same b4]
    unfold b45_1 r45_9 r45_10 r45_11 r45_12
    rcases hm with rfl | rfl
    · rw [show out ++ (r :: rest).map (mv 0) = (out ++ [r.m0]) ++ rest.map (mv 0) by simp [mv]] at hx
      repeat' (first | refine app_own rfl rfl rfl rfl (z1 _) (by intro e he; cases List.mem_singleton.mp he; rfl) (e _) rfl (fun _ _ => ?_) | refine w_seq ?_ | refine w_ops ?_ | refine st_nil ?_ | refine th_n ?_ | refine bk_n ?_ | refine w_block ?_ | refine w_skip ?_ | refine w_true rfl ?_ | refine mv_c rfl ?_ | refine mv_osl rfl ?_ | refine lss_t rfl rfl (by omega) ?_ | refine add_in rfl rfl (by omega) ?_ | refine alloc_ (fun u => ?_) | refine bsl_ rfl rfl ?_ | refine load_rp rfl (Nat.le_of_ble_eq_true rfl) rfl ?_ | refine load_ptr rfl (by decide) rfl (Nat.le_of_ble_eq_true rfl) rfl ?_ | refine store_ptr rfl rfl (by decide) rfl rfl (Nat.le_of_ble_eq_true rfl) rfl ?_ | refine fad_ptr rfl rfl rfl ?_ | refine iaA_ptr rfl rfl rfl (by omega) rfl ?_ | refine iaS_c rfl rfl (by omega) (by assumption) rfl ?_ | refine w_rn rfl (by decide) rfl rfl (fun _ _ => ?_))
      exact ih (k + 1) (out ++ [r.m0]) _ hn (by omega) (by simp; omega) (by rfl) (by rfl) (by rfl) (by rfl) (by rfl) (by rfl) (by rfl) (by rfl) (by rfl) (by rfl) (by rfl) (by rfl) (by rfl) (by rfl) hx
    · rw [show out ++ (r :: rest).map (mv 1) = (out ++ [r.m1]) ++ rest.map (mv 1) by simp [mv]] at hx
      repeat' (first | refine app_own rfl rfl rfl rfl (z1 _) (by intro e he; cases List.mem_singleton.mp he; rfl) (e _) rfl (fun _ _ => ?_) | refine w_seq ?_ | refine w_ops ?_ | refine st_nil ?_ | refine th_n ?_ | refine bk_n ?_ | refine w_block ?_ | refine w_skip ?_ | refine w_true rfl ?_ | refine mv_c rfl ?_ | refine mv_osl rfl ?_ | refine lss_t rfl rfl (by omega) ?_ | refine add_in rfl rfl (by omega) ?_ | refine alloc_ (fun u => ?_) | refine bsl_ rfl rfl ?_ | refine load_rp rfl (Nat.le_of_ble_eq_true rfl) rfl ?_ | refine load_ptr rfl (by decide) rfl (Nat.le_of_ble_eq_true rfl) rfl ?_ | refine store_ptr rfl rfl (by decide) rfl rfl (Nat.le_of_ble_eq_true rfl) rfl ?_ | refine fad_ptr rfl rfl rfl ?_ | refine iaA_ptr rfl rfl rfl (by omega) rfl ?_ | refine iaS_c rfl rfl (by omega) (by assumption) rfl ?_ | refine w_rn rfl (by decide) rfl rfl (fun _ _ => ?_))
      exact ih (k + 1) (out ++ [r.m1]) _ hn (by omega) (by simp; omega) (by rfl) (by rfl) (by rfl) (by rfl) (by rfl) (by rfl) (by rfl) (by rfl) (by rfl) (by rfl) (by rfl) (by rfl) (by rfl) (by rfl) hx
theorem mv0 : mv 0 = (·.m0) := by funext r; simp [mv]
theorem mv1 : mv 1 = (·.m1) := by funext r; simp [mv]
theorem sum_vals (l : List Int) (hl : l.length ≤ 1000) : sumB (ofL l) = if I64 (sumI l) then (sumI l, true) else (0, false) := by
  have hg : good (ofL l) = true := good_ofL (by omega)
  simp only [sumB, hg, wsum_ofL, true_and]
theorem C_cOf (m : Int) (l : List RowS) (hlen : l.length ≤ 1000) (hr : ∀ r ∈ l, inR r) : PCallG Try.prog 45 [.c (.int .i64 m), .c (encRows l)] (.c (.tup [encCell (ofC m l).1, .bool (ofC m l).2])) [] := by
  refine pcallF Try.func45 c45 rfl ?_
  have c1 := C_measures m
  have l0 : (l.map (·.m0)).length ≤ 1000 := by simp; omega
  have l1 : (l.map (·.m1)).length ≤ 1000 := by simp; omega
  have r0 : ∀ a ∈ l.map (·.m0), I64 a := fun a ha => by obtain ⟨r, hr', rfl⟩ := List.mem_map.mp ha; exact (hr r hr').1
  have r1 : ∀ a ∈ l.map (·.m1), I64 a := fun a ha => by obtain ⟨r, hr', rfl⟩ := List.mem_map.mp ha; exact (hr r hr').2
  have c2 := C_Of (l.map (·.m0)) (by omega)
  have c3 := C_Of (l.map (·.m1)) (by omega)
  have k0 := (ofL_facts (l.map (·.m0))).2.2.2.2
  have k1 := (ofL_facts (l.map (·.m1))).2.2.2.2
  have c4 := C_Sum (ofL (l.map (·.m0))) (by omega) (ranged_ofL r0 (by omega))
  have c5 := C_Sum (ofL (l.map (·.m1))) (by omega) (ranged_ofL r1 (by omega))
  rw [sum_vals _ l0] at c4
  rw [sum_vals _ l1] at c5
  unfold p45 r45_0 r45_1 r45_2 r45_3 r45_4 r45_19
  by_cases hm : 1 ≤ m ∧ m ≤ 2
  · rw [decide_eq_true hm] at c1
    cases l with
    | nil =>
      rw [show ofC m [] = (zeroC, false) by simp [ofC]]
      repeat' (first | refine call1 rfl c1 ?_ | refine len_sl (es := []) rfl rfl ?_ | refine w_seq ?_ | refine w_ops ?_ | refine st_nil ?_ | refine th_n ?_ | refine th_r ?_ | refine w_ret ?_ | refine w_true rfl ?_ | refine g_yes rfl ?_ | refine mv_c rfl ?_ | refine pick_f rfl rfl ?_ | refine eqd_ rfl rfl ?_ | refine not_ rfl ?_ | refine alloc_ (fun u => ?_) | refine build_ rfl rfl ?_ | refine store_ptr rfl rfl (by decide) rfl rfl (Nat.le_of_ble_eq_true rfl) rfl ?_)
      exact fin_r (rv_cell rfl rfl rfl rfl (rv_t rfl rv_nil)) rfl
    | cons r0' l' =>
      generalize hL : r0' :: l' = l at *
      have hne : l ≠ [] := by rw [← hL]; simp
      have hpos : 0 < l.length := by rw [← hL]; simp
      have lenE : (l.map encRow).length = l.length := List.length_map _
      by_cases f0 : I64 (sumI (l.map (·.m0)))
      · rw [if_pos f0] at c4
        by_cases hm2 : m = 2
        · by_cases f1 : I64 (sumI (l.map (·.m1)))
          · rw [if_pos f1] at c5
            rw [show ofC m l = (⟨l.length, sumI (l.map (·.m0)), sumI (l.map (·.m1)), ofL (l.map (·.m0)), ofL (l.map (·.m1))⟩, true) by
              unfold ofC; rw [if_pos ⟨hm, hne, f0, fun _ => f1⟩]; simp [hm2]]
            repeat' (first | refine call1 rfl c1 ?_ | refine len_sl rfl lenE ?_ | refine w_seq ?_ | refine w_ops ?_ | refine st_nil ?_ | refine th_n ?_ | refine w_block ?_ | refine w_skip ?_ | refine w_false rfl ?_ | refine g_yes rfl ?_ | refine mv_c rfl ?_ | refine pick_f rfl rfl ?_ | refine eql_f rfl rfl (by omega) ?_ | refine not_ rfl ?_ | refine alloc_ (fun u => ?_) | refine build_ rfl rfl ?_ | refine store_ptr rfl rfl (by decide) rfl rfl (Nat.le_of_ble_eq_true rfl) rfl ?_)
            refine w_loop ?_
            unfold b45_0 r45_5 r45_6 r45_7 r45_8 r45_13 r45_14 r45_15 r45_16 r45_17 r45_18
            repeat' (first | refine len_sl rfl lenE ?_ | refine w_seq ?_ | refine w_ops ?_ | refine st_nil ?_ | refine th_n ?_ | refine w_block ?_ | refine w_skip ?_ | refine w_true rfl ?_ | refine mv_c rfl ?_ | refine lss_t rfl rfl (by omega) ?_ | refine own0_ (fun u => ?_))
            refine vals_loop l hlen 0 (.inl rfl) _ _ _ _ _ _ _ _ l 0 [] _ rfl (by omega) (by simp) (by rfl) (by rfl) (by rfl) (by rfl) (by rfl) (by rfl) (by rfl) (by rfl) (by rfl) (by rfl) (by rfl) (by rfl) (by rfl) (by rfl) ?_
            intro s' v t7 t8 b8 t0 t1 t25 t26 t6 t4 b6 b4
            rw [List.nil_append, mv0] at t8 b8
            rw [← put_same t7, ← put_same t8, ← put_same t0, ← put_same t1, ← put_same t25, ← put_same t26, ← put_same t6, ← put_same t4, ← box_same b8, ← box_same b6, ← box_same b4]
            repeat' (first | refine call1 rfl c2 ?_ | refine call1 rfl c4 ?_ | refine w_seq ?_ | refine w_ops ?_ | refine st_nil ?_ | refine th_n ?_ | refine bk_n ?_ | refine bk_x ?_ | refine w_skip ?_ | refine w_false rfl ?_ | refine mv_c rfl ?_ | refine not_ rfl ?_ | refine add_in rfl rfl (by omega) ?_ | refine load_ptr rfl (by decide) rfl (Nat.le_of_ble_eq_true rfl) rfl ?_ | refine store_ptr rfl rfl (by decide) rfl rfl (Nat.le_of_ble_eq_true rfl) rfl ?_ | refine fad_ptr rfl rfl rfl ?_ | refine iaA_ptr rfl rfl rfl (by omega) rfl ?_ | refine ext_ rfl rfl ?_ | refine w_fz_osl rfl rfl rfl (fun u => ?_))
            refine w_loop ?_
            repeat' (first | refine len_sl rfl lenE ?_ | refine w_seq ?_ | refine w_ops ?_ | refine st_nil ?_ | refine th_n ?_ | refine w_block ?_ | refine w_skip ?_ | refine w_true rfl ?_ | refine mv_c rfl ?_ | refine lss_t rfl rfl (by omega) ?_ | refine own0_ (fun u => ?_))
            refine vals_loop l hlen 1 (.inr rfl) _ _ _ _ _ _ _ _ l 0 [] _ rfl (by omega) (by simp) (by rfl) (by rfl) (by rfl) (by rfl) (by rfl) (by rfl) (by rfl) (by rfl) (by rfl) (by rfl) (by rfl) (by rfl) (by rfl) (by rfl) ?_
            intro s' v t7 t8 b8 t0 t1 t25 t26 t6 t4 b6 b4
            rw [List.nil_append, mv1] at t8 b8
            rw [← put_same t7, ← put_same t8, ← put_same t0, ← put_same t1, ← put_same t25, ← put_same t26, ← put_same t6, ← put_same t4, ← box_same b8, ← box_same b6, ← box_same b4]
            repeat' (first | refine call1 rfl c3 ?_ | refine call1 rfl c5 ?_ | refine w_seq ?_ | refine w_ops ?_ | refine st_nil ?_ | refine th_n ?_ | refine bk_n ?_ | refine bk_x ?_ | refine w_skip ?_ | refine w_false rfl ?_ | refine mv_c rfl ?_ | refine not_ rfl ?_ | refine add_in rfl rfl (by omega) ?_ | refine load_ptr rfl (by decide) rfl (Nat.le_of_ble_eq_true rfl) rfl ?_ | refine store_ptr rfl rfl (by decide) rfl rfl (Nat.le_of_ble_eq_true rfl) rfl ?_ | refine fad_ptr rfl rfl rfl ?_ | refine iaA_ptr rfl rfl rfl (by omega) rfl ?_ | refine ext_ rfl rfl ?_ | refine w_fz_osl rfl rfl rfl (fun u => ?_))
            refine w_loop ?_
            repeat' (first | refine w_seq ?_ | refine w_ops ?_ | refine st_nil ?_ | refine th_n ?_ | refine th_x ?_ | refine bk_x ?_ | refine w_exit ?_ | refine w_ret ?_ | refine w_false rfl ?_ | refine mv_c rfl ?_ | refine lss_f rfl rfl (by omega) ?_ | refine load_ptr rfl (by decide) rfl (Nat.le_of_ble_eq_true rfl) rfl ?_ | refine store_ptr rfl rfl (by decide) rfl rfl (Nat.le_of_ble_eq_true rfl) rfl ?_)
            exact fin_r (rv_cell rfl rfl rfl rfl (rv_t rfl rv_nil)) rfl
          · rw [if_neg f1] at c5
            rw [show ofC m l = (zeroC, false) by unfold ofC; rw [if_neg (fun h => f1 (h.2.2.2 hm2))]]
            repeat' (first | refine call1 rfl c1 ?_ | refine len_sl rfl lenE ?_ | refine w_seq ?_ | refine w_ops ?_ | refine st_nil ?_ | refine th_n ?_ | refine w_block ?_ | refine w_skip ?_ | refine w_false rfl ?_ | refine g_yes rfl ?_ | refine mv_c rfl ?_ | refine pick_f rfl rfl ?_ | refine eql_f rfl rfl (by omega) ?_ | refine not_ rfl ?_ | refine alloc_ (fun u => ?_) | refine build_ rfl rfl ?_ | refine store_ptr rfl rfl (by decide) rfl rfl (Nat.le_of_ble_eq_true rfl) rfl ?_)
            refine w_loop ?_
            unfold b45_0 r45_5 r45_6 r45_7 r45_8 r45_13 r45_14 r45_15 r45_16 r45_17 r45_18
            repeat' (first | refine len_sl rfl lenE ?_ | refine w_seq ?_ | refine w_ops ?_ | refine st_nil ?_ | refine th_n ?_ | refine w_block ?_ | refine w_skip ?_ | refine w_true rfl ?_ | refine mv_c rfl ?_ | refine lss_t rfl rfl (by omega) ?_ | refine own0_ (fun u => ?_))
            refine vals_loop l hlen 0 (.inl rfl) _ _ _ _ _ _ _ _ l 0 [] _ rfl (by omega) (by simp) (by rfl) (by rfl) (by rfl) (by rfl) (by rfl) (by rfl) (by rfl) (by rfl) (by rfl) (by rfl) (by rfl) (by rfl) (by rfl) (by rfl) ?_
            intro s' v t7 t8 b8 t0 t1 t25 t26 t6 t4 b6 b4
            rw [List.nil_append, mv0] at t8 b8
            rw [← put_same t7, ← put_same t8, ← put_same t0, ← put_same t1, ← put_same t25, ← put_same t26, ← put_same t6, ← put_same t4, ← box_same b8, ← box_same b6, ← box_same b4]
            repeat' (first | refine call1 rfl c2 ?_ | refine call1 rfl c4 ?_ | refine w_seq ?_ | refine w_ops ?_ | refine st_nil ?_ | refine th_n ?_ | refine bk_n ?_ | refine bk_x ?_ | refine w_skip ?_ | refine w_false rfl ?_ | refine mv_c rfl ?_ | refine not_ rfl ?_ | refine add_in rfl rfl (by omega) ?_ | refine load_ptr rfl (by decide) rfl (Nat.le_of_ble_eq_true rfl) rfl ?_ | refine store_ptr rfl rfl (by decide) rfl rfl (Nat.le_of_ble_eq_true rfl) rfl ?_ | refine fad_ptr rfl rfl rfl ?_ | refine iaA_ptr rfl rfl rfl (by omega) rfl ?_ | refine ext_ rfl rfl ?_ | refine w_fz_osl rfl rfl rfl (fun u => ?_))
            refine w_loop ?_
            repeat' (first | refine len_sl rfl lenE ?_ | refine w_seq ?_ | refine w_ops ?_ | refine st_nil ?_ | refine th_n ?_ | refine w_block ?_ | refine w_skip ?_ | refine w_true rfl ?_ | refine mv_c rfl ?_ | refine lss_t rfl rfl (by omega) ?_ | refine own0_ (fun u => ?_))
            refine vals_loop l hlen 1 (.inr rfl) _ _ _ _ _ _ _ _ l 0 [] _ rfl (by omega) (by simp) (by rfl) (by rfl) (by rfl) (by rfl) (by rfl) (by rfl) (by rfl) (by rfl) (by rfl) (by rfl) (by rfl) (by rfl) (by rfl) (by rfl) ?_
            intro s' v t7 t8 b8 t0 t1 t25 t26 t6 t4 b6 b4
            rw [List.nil_append, mv1] at t8 b8
            rw [← put_same t7, ← put_same t8, ← put_same t0, ← put_same t1, ← put_same t25, ← put_same t26, ← put_same t6, ← put_same t4, ← box_same b8, ← box_same b6, ← box_same b4]
            repeat' (first | refine call1 rfl c3 ?_ | refine call1 rfl c5 ?_ | refine w_seq ?_ | refine w_ops ?_ | refine st_nil ?_ | refine th_n ?_ | refine th_r ?_ | refine bk_r ?_ | refine bk_x ?_ | refine w_ret ?_ | refine w_true rfl ?_ | refine mv_c rfl ?_ | refine not_ rfl ?_ | refine build_ rfl rfl ?_ | refine load_ptr rfl (by decide) rfl (Nat.le_of_ble_eq_true rfl) rfl ?_ | refine store_ptr rfl rfl (by decide) rfl rfl (Nat.le_of_ble_eq_true rfl) rfl ?_ | refine fad_ptr rfl rfl rfl ?_ | refine iaA_ptr rfl rfl rfl (by omega) rfl ?_ | refine ext_ rfl rfl ?_ | refine w_fz_osl rfl rfl rfl (fun u => ?_))
            exact fin_r (rv_cell rfl rfl rfl rfl (rv_t rfl rv_nil)) rfl
        · rw [show ofC m l = (⟨l.length, sumI (l.map (·.m0)), 0, ofL (l.map (·.m0)), []⟩, true) by
            unfold ofC; rw [if_pos ⟨hm, hne, f0, fun h => absurd h hm2⟩]; simp [hm2]]
          repeat' (first | refine call1 rfl c1 ?_ | refine len_sl rfl lenE ?_ | refine w_seq ?_ | refine w_ops ?_ | refine st_nil ?_ | refine th_n ?_ | refine w_block ?_ | refine w_skip ?_ | refine w_false rfl ?_ | refine g_yes rfl ?_ | refine mv_c rfl ?_ | refine pick_f rfl rfl ?_ | refine eql_f rfl rfl (by omega) ?_ | refine not_ rfl ?_ | refine alloc_ (fun u => ?_) | refine build_ rfl rfl ?_ | refine store_ptr rfl rfl (by decide) rfl rfl (Nat.le_of_ble_eq_true rfl) rfl ?_)
          refine w_loop ?_
          unfold b45_0 r45_5 r45_6 r45_7 r45_8 r45_13 r45_14 r45_15 r45_16 r45_17 r45_18
          repeat' (first | refine len_sl rfl lenE ?_ | refine w_seq ?_ | refine w_ops ?_ | refine st_nil ?_ | refine th_n ?_ | refine w_block ?_ | refine w_skip ?_ | refine w_true rfl ?_ | refine mv_c rfl ?_ | refine lss_t rfl rfl (by omega) ?_ | refine own0_ (fun u => ?_))
          refine vals_loop l hlen 0 (.inl rfl) _ _ _ _ _ _ _ _ l 0 [] _ rfl (by omega) (by simp) (by rfl) (by rfl) (by rfl) (by rfl) (by rfl) (by rfl) (by rfl) (by rfl) (by rfl) (by rfl) (by rfl) (by rfl) (by rfl) (by rfl) ?_
          intro s' v t7 t8 b8 t0 t1 t25 t26 t6 t4 b6 b4
          rw [List.nil_append, mv0] at t8 b8
          rw [← put_same t7, ← put_same t8, ← put_same t0, ← put_same t1, ← put_same t25, ← put_same t26, ← put_same t6, ← put_same t4, ← box_same b8, ← box_same b6, ← box_same b4]
          repeat' (first | refine call1 rfl c2 ?_ | refine call1 rfl c4 ?_ | refine w_seq ?_ | refine w_ops ?_ | refine st_nil ?_ | refine th_n ?_ | refine bk_n ?_ | refine bk_x ?_ | refine w_skip ?_ | refine w_false rfl ?_ | refine mv_c rfl ?_ | refine not_ rfl ?_ | refine add_in rfl rfl (by omega) ?_ | refine load_ptr rfl (by decide) rfl (Nat.le_of_ble_eq_true rfl) rfl ?_ | refine store_ptr rfl rfl (by decide) rfl rfl (Nat.le_of_ble_eq_true rfl) rfl ?_ | refine fad_ptr rfl rfl rfl ?_ | refine iaA_ptr rfl rfl rfl (by omega) rfl ?_ | refine ext_ rfl rfl ?_ | refine w_fz_osl rfl rfl rfl (fun u => ?_))
          refine w_loop ?_
          repeat' (first | refine w_seq ?_ | refine w_ops ?_ | refine st_nil ?_ | refine th_n ?_ | refine th_x ?_ | refine bk_x ?_ | refine w_exit ?_ | refine w_ret ?_ | refine w_false rfl ?_ | refine mv_c rfl ?_ | refine lss_f rfl rfl (by omega) ?_ | refine load_ptr rfl (by decide) rfl (Nat.le_of_ble_eq_true rfl) rfl ?_ | refine store_ptr rfl rfl (by decide) rfl rfl (Nat.le_of_ble_eq_true rfl) rfl ?_)
          exact fin_r (rv_cell rfl rfl rfl rfl (rv_t rfl rv_nil)) rfl
      · rw [if_neg f0] at c4
        rw [show ofC m l = (zeroC, false) by unfold ofC; rw [if_neg (fun h => f0 h.2.2.1)]]
        repeat' (first | refine call1 rfl c1 ?_ | refine len_sl rfl lenE ?_ | refine w_seq ?_ | refine w_ops ?_ | refine st_nil ?_ | refine th_n ?_ | refine w_block ?_ | refine w_skip ?_ | refine w_false rfl ?_ | refine g_yes rfl ?_ | refine mv_c rfl ?_ | refine pick_f rfl rfl ?_ | refine eql_f rfl rfl (by omega) ?_ | refine not_ rfl ?_ | refine alloc_ (fun u => ?_) | refine build_ rfl rfl ?_ | refine store_ptr rfl rfl (by decide) rfl rfl (Nat.le_of_ble_eq_true rfl) rfl ?_)
        refine w_loop ?_
        unfold b45_0 r45_5 r45_6 r45_7 r45_8 r45_13 r45_14 r45_15 r45_16 r45_17 r45_18
        repeat' (first | refine len_sl rfl lenE ?_ | refine w_seq ?_ | refine w_ops ?_ | refine st_nil ?_ | refine th_n ?_ | refine w_block ?_ | refine w_skip ?_ | refine w_true rfl ?_ | refine mv_c rfl ?_ | refine lss_t rfl rfl (by omega) ?_ | refine own0_ (fun u => ?_))
        refine vals_loop l hlen 0 (.inl rfl) _ _ _ _ _ _ _ _ l 0 [] _ rfl (by omega) (by simp) (by rfl) (by rfl) (by rfl) (by rfl) (by rfl) (by rfl) (by rfl) (by rfl) (by rfl) (by rfl) (by rfl) (by rfl) (by rfl) (by rfl) ?_
        intro s' v t7 t8 b8 t0 t1 t25 t26 t6 t4 b6 b4
        rw [List.nil_append, mv0] at t8 b8
        rw [← put_same t7, ← put_same t8, ← put_same t0, ← put_same t1, ← put_same t25, ← put_same t26, ← put_same t6, ← put_same t4, ← box_same b8, ← box_same b6, ← box_same b4]
        repeat' (first | refine call1 rfl c2 ?_ | refine call1 rfl c4 ?_ | refine w_seq ?_ | refine w_ops ?_ | refine st_nil ?_ | refine th_n ?_ | refine th_r ?_ | refine bk_r ?_ | refine bk_x ?_ | refine w_ret ?_ | refine w_true rfl ?_ | refine mv_c rfl ?_ | refine not_ rfl ?_ | refine build_ rfl rfl ?_ | refine load_ptr rfl (by decide) rfl (Nat.le_of_ble_eq_true rfl) rfl ?_ | refine store_ptr rfl rfl (by decide) rfl rfl (Nat.le_of_ble_eq_true rfl) rfl ?_ | refine fad_ptr rfl rfl rfl ?_ | refine iaA_ptr rfl rfl rfl (by omega) rfl ?_ | refine ext_ rfl rfl ?_ | refine w_fz_osl rfl rfl rfl (fun u => ?_))
        exact fin_r (rv_cell rfl rfl rfl rfl (rv_t rfl rv_nil)) rfl
  · rw [decide_eq_false hm] at c1
    rw [show ofC m l = (zeroC, false) by unfold ofC; rw [if_neg (fun h => hm h.1)]]
    repeat' (first | refine call1 rfl c1 ?_ | refine len_sl rfl (List.length_map _) ?_ | refine w_seq ?_ | refine w_ops ?_ | refine st_nil ?_ | refine th_n ?_ | refine th_r ?_ | refine w_ret ?_ | refine w_true rfl ?_ | refine g_no rfl ?_ | refine mv_c rfl ?_ | refine pick_t rfl rfl ?_ | refine not_ rfl ?_ | refine alloc_ (fun u => ?_) | refine build_ rfl rfl ?_ | refine store_ptr rfl rfl (by decide) rfl rfl (Nat.le_of_ble_eq_true rfl) rfl ?_)
    exact fin_r (rv_cell rfl rfl rfl rfl (rv_t rfl rv_nil)) rfl
end Go.Proofs.Ytcmejdkjfekoeaa
namespace Go.Proofs.Ytcmejdkjfekoeaa
open Go.Pl Go.Bag
set_option maxHeartbeats 8000000
theorem get_map {α : Type} {f : α → List CV} {l : List α} {i : Nat} {a : α} {rest : List α} (hd : l.drop i = a :: rest) : (l.map f)[i]? = some (f a) := by
  have : l[i]? = some a := by have := congrArg List.head? hd; simpa [List.head?_drop] using this
  simp [this]
theorem ldim_loop {C : CallP} {K : Ex → PS → Prop} (d : DimS) (hlen : d.up.length ≤ 10) (v : Nat) : ∀ (rest : List (List Int)) (i : Nat) (s : PS), d.up.drop i = rest → i ≤ d.up.length →
    s.t 1 = .ptr 1 v 0 → s.bx 1 = ⟨v, .var [encIs d.sizes, .sl (d.up.map fun l => [encIs l])]⟩ → s.t 3 = .c (.int .i64 i) →
    (rest.all (fun l => decide (l.length ≤ 60)) = true → ∀ s', K (.x 0) s') → (rest.all (fun l => decide (l.length ≤ 60)) = false → ∀ s', s'.t 2 = .c (.bool false) → K .r s') → wP C (.loop b110_0) s K := by
  intro rest
  induction rest with
  | nil =>
    intro i s hd hi t1 b1 t3 hx hr
    refine w_loop ?_
    have := drop_end hd hi
    subst this
    rw [← put_same t1, ← box_same b1, ← put_same t3]
    unfold b110_0 r110_4 r110_5 r110_6 r110_7
    repeat' (first | refine len_sl rfl (List.length_map _) ?_ | refine w_seq ?_ | refine w_ops ?_ | refine st_nil ?_ | refine th_n ?_ | refine th_x ?_ | refine w_exit ?_ | refine w_false rfl ?_ | refine mv_c rfl ?_ | refine lss_f rfl rfl (by omega) ?_ | refine load_ptr rfl (by decide) rfl (Nat.le_of_ble_eq_true rfl) rfl ?_ | refine fad_ptr rfl rfl rfl ?_)
    exact hx rfl _
  | cons l rest ih =>
    intro i s hd hi t1 b1 t3 hx hr
    refine w_loop ?_
    have he : (d.up.map fun l => [encIs l])[i]? = some [encIs l] := get_map hd
    have hil := get_slen hd
    have hn := drop_next hd
    rw [← put_same t1, ← box_same b1, ← put_same t3]
    unfold b110_0 r110_4 r110_5 r110_6 r110_7
    by_cases h : l.length ≤ 60
    · repeat' (first | refine len_sl rfl (List.length_map _) ?_ | refine w_seq ?_ | refine w_ops ?_ | refine st_nil ?_ | refine th_n ?_ | refine bk_n ?_ | refine w_block ?_ | refine w_skip ?_ | refine w_true rfl ?_ | refine w_false rfl ?_ | refine mv_c rfl ?_ | refine lss_t rfl rfl (by omega) ?_ | refine gtr_f rfl rfl (by omega) ?_ | refine add_in rfl rfl (by omega) ?_ | refine load_rp rfl (Nat.le_of_ble_eq_true rfl) rfl ?_ | refine load_ptr rfl (by decide) rfl (Nat.le_of_ble_eq_true rfl) rfl ?_ | refine fad_ptr rfl rfl rfl ?_ | refine iaS_c rfl rfl (by omega) (by assumption) rfl ?_)
      refine ih (i + 1) _ hn (by omega) (by rfl) (by rfl) (by rfl) (fun h' => hx ?_) (fun h' => hr ?_)
      · simp [h]; simpa using h'
      · simp [h]; simpa using h'
    · repeat' (first | refine len_sl rfl (List.length_map _) ?_ | refine w_seq ?_ | refine w_ops ?_ | refine st_nil ?_ | refine th_n ?_ | refine th_r ?_ | refine bk_r ?_ | refine w_block ?_ | refine w_skip ?_ | refine w_ret ?_ | refine w_true rfl ?_ | refine mv_c rfl ?_ | refine lss_t rfl rfl (by omega) ?_ | refine gtr_t rfl rfl (by omega) ?_ | refine load_rp rfl (Nat.le_of_ble_eq_true rfl) rfl ?_ | refine load_ptr rfl (by decide) rfl (Nat.le_of_ble_eq_true rfl) rfl ?_ | refine fad_ptr rfl rfl rfl ?_ | refine iaS_c rfl rfl (by omega) (by assumption) rfl ?_)
      exact hr (by simp [h]) _ (by rfl)
theorem C_LightDim (d : DimS) (h0 : d.sizes.length ≤ 9223372036854775807) (h1 : d.up.length ≤ 9223372036854775807) : PCallG Try.prog 110 [.c (.agg (encDim d))] (.c (.bool (lightDim d))) [] := by
  refine pcallF Try.func110 c110 rfl ?_
  unfold encDim lightDim
  unfold p110 r110_0 r110_1 r110_2 r110_3 r110_8
  by_cases a : d.sizes.length ≤ 10
  · by_cases b : d.up.length ≤ 10
    · rw [decide_eq_true ⟨a, b⟩, Bool.true_and]
      repeat' (first | refine len_sl rfl (List.length_map _) ?_ | refine w_seq ?_ | refine w_ops ?_ | refine st_nil ?_ | refine th_n ?_ | refine w_block ?_ | refine w_skip ?_ | refine w_false rfl ?_ | refine g_yes rfl ?_ | refine mv_c rfl ?_ | refine pick_f rfl rfl ?_ | refine gtr_f rfl rfl (by omega) ?_ | refine box_ rfl rfl rfl (fun u => ?_) | refine load_ptr rfl (by decide) rfl (Nat.le_of_ble_eq_true rfl) rfl ?_ | refine fad_ptr rfl rfl rfl ?_)
      refine ldim_loop d b _ d.up 0 _ rfl (by omega) (by rfl) (by rfl) (by rfl) (fun h s' => ?_) (fun h s' h2 => ?_)
      · rw [h]
        repeat' (first | refine w_seq ?_ | refine w_ops ?_ | refine st_nil ?_ | refine th_n ?_ | refine bk_x ?_ | refine w_ret ?_ | refine mv_c rfl ?_)
        exact fin_r rfl rfl
      · rw [h, ← put_same h2]
        repeat' (first | refine th_r ?_ | refine bk_r ?_)
        exact fin_r rfl rfl
    · rw [decide_eq_false (by omega), Bool.false_and]
      repeat' (first | refine len_sl rfl (List.length_map _) ?_ | refine w_seq ?_ | refine w_ops ?_ | refine st_nil ?_ | refine th_n ?_ | refine th_r ?_ | refine w_ret ?_ | refine w_true rfl ?_ | refine g_yes rfl ?_ | refine mv_c rfl ?_ | refine pick_f rfl rfl ?_ | refine gtr_t rfl rfl (by omega) ?_ | refine gtr_f rfl rfl (by omega) ?_ | refine box_ rfl rfl rfl (fun u => ?_) | refine load_ptr rfl (by decide) rfl (Nat.le_of_ble_eq_true rfl) rfl ?_ | refine fad_ptr rfl rfl rfl ?_)
      exact fin_r rfl rfl
  · rw [decide_eq_false (by omega), Bool.false_and]
    repeat' (first | refine len_sl rfl (List.length_map _) ?_ | refine w_seq ?_ | refine w_ops ?_ | refine st_nil ?_ | refine th_n ?_ | refine th_r ?_ | refine w_ret ?_ | refine w_true rfl ?_ | refine g_no rfl ?_ | refine mv_c rfl ?_ | refine pick_t rfl rfl ?_ | refine gtr_t rfl rfl (by omega) ?_ | refine box_ rfl rfl rfl (fun u => ?_) | refine load_ptr rfl (by decide) rfl (Nat.le_of_ble_eq_true rfl) rfl ?_ | refine fad_ptr rfl rfl rfl ?_)
    exact fin_r rfl rfl
theorem lcat_loop {K : Ex → PS → Prop} (c : CatS) (hlen : c.dims.length ≤ 8) (hin : ∀ d ∈ c.dims, d.sizes.length ≤ 9223372036854775807 ∧ d.up.length ≤ 9223372036854775807) (v : Nat) : ∀ (rest : List DimS) (i : Nat) (s : PS), c.dims.drop i = rest → i ≤ c.dims.length →
    s.t 1 = .ptr 1 v 0 → s.bx 1 = ⟨v, .var [.sl (c.dims.map encDim), .int .i64 c.m]⟩ → s.t 3 = .c (.int .i64 i) →
    (rest.all lightDim = true → ∀ s', K (.x 0) s') → (rest.all lightDim = false → ∀ s', s'.t 2 = .c (.bool false) → K .r s') → wP (PCallG Try.prog) (.loop b78_0) s K := by
  intro rest
  induction rest with
  | nil =>
    intro i s hd hi t1 b1 t3 hx hr
    refine w_loop ?_
    have := drop_end hd hi
    subst this
    rw [← put_same t1, ← box_same b1, ← put_same t3]
    unfold b78_0 r78_4 r78_5 r78_6 r78_7
    repeat' (first | refine len_sl rfl (List.length_map _) ?_ | refine w_seq ?_ | refine w_ops ?_ | refine st_nil ?_ | refine th_n ?_ | refine th_x ?_ | refine w_exit ?_ | refine w_false rfl ?_ | refine mv_c rfl ?_ | refine lss_f rfl rfl (by omega) ?_ | refine load_ptr rfl (by decide) rfl (Nat.le_of_ble_eq_true rfl) rfl ?_ | refine fad_ptr rfl rfl rfl ?_)
    exact hx rfl _
  | cons d rest ih =>
    intro i s hd hi t1 b1 t3 hx hr
    refine w_loop ?_
    have he : (c.dims.map encDim)[i]? = some (encDim d) := get_map hd
    have hil := get_slen hd
    have hn := drop_next hd
    have hdm := hin d (List.mem_of_mem_drop (by rw [hd]; simp))
    have c1 := C_LightDim d hdm.1 hdm.2
    rw [← put_same t1, ← box_same b1, ← put_same t3]
    unfold encDim at he c1
    unfold b78_0 r78_4 r78_5 r78_6 r78_7
    cases h : lightDim d with
    | true =>
      rw [h] at c1
      repeat' (first | refine len_sl rfl (List.length_map _) ?_ | refine call1 rfl c1 ?_ | refine w_seq ?_ | refine w_ops ?_ | refine st_nil ?_ | refine th_n ?_ | refine bk_n ?_ | refine w_block ?_ | refine w_skip ?_ | refine w_true rfl ?_ | refine w_false rfl ?_ | refine mv_c rfl ?_ | refine lss_t rfl rfl (by omega) ?_ | refine not_ rfl ?_ | refine add_in rfl rfl (by omega) ?_ | refine load_rp rfl (Nat.le_of_ble_eq_true rfl) rfl ?_ | refine load_ptr rfl (by decide) rfl (Nat.le_of_ble_eq_true rfl) rfl ?_ | refine fad_ptr rfl rfl rfl ?_ | refine iaS_c rfl rfl (by omega) (by assumption) rfl ?_)
      refine ih (i + 1) _ hn (by omega) (by rfl) (by rfl) (by rfl) (fun h' => hx ?_) (fun h' => hr ?_)
      · simp [h]; simpa using h'
      · simp [h]; simpa using h'
    | false =>
      rw [h] at c1
      repeat' (first | refine len_sl rfl (List.length_map _) ?_ | refine call1 rfl c1 ?_ | refine w_seq ?_ | refine w_ops ?_ | refine st_nil ?_ | refine th_n ?_ | refine th_r ?_ | refine bk_r ?_ | refine w_block ?_ | refine w_skip ?_ | refine w_ret ?_ | refine w_true rfl ?_ | refine mv_c rfl ?_ | refine lss_t rfl rfl (by omega) ?_ | refine not_ rfl ?_ | refine load_rp rfl (Nat.le_of_ble_eq_true rfl) rfl ?_ | refine load_ptr rfl (by decide) rfl (Nat.le_of_ble_eq_true rfl) rfl ?_ | refine fad_ptr rfl rfl rfl ?_ | refine iaS_c rfl rfl (by omega) (by assumption) rfl ?_)
      exact hr (by simp [h]) _ (by rfl)
theorem C_LightCat (c : CatS) (h0 : c.dims.length ≤ 9223372036854775807) (hin : ∀ d ∈ c.dims, d.sizes.length ≤ 9223372036854775807 ∧ d.up.length ≤ 9223372036854775807) : PCallG Try.prog 78 [.c (.agg (encCat c))] (.c (.bool (lightCat c))) [] := by
  refine pcallF Try.func78 c78 rfl ?_
  unfold encCat lightCat
  unfold p78 r78_0 r78_1 r78_2 r78_3 r78_8
  by_cases b : c.dims.length ≤ 8
  · rw [decide_eq_true b, Bool.true_and]
    repeat' (first | refine len_sl rfl (List.length_map _) ?_ | refine w_seq ?_ | refine w_ops ?_ | refine st_nil ?_ | refine th_n ?_ | refine w_block ?_ | refine w_skip ?_ | refine w_false rfl ?_ | refine mv_c rfl ?_ | refine gtr_f rfl rfl (by omega) ?_ | refine box_ rfl rfl rfl (fun u => ?_) | refine load_ptr rfl (by decide) rfl (Nat.le_of_ble_eq_true rfl) rfl ?_ | refine fad_ptr rfl rfl rfl ?_)
    refine lcat_loop c b hin _ c.dims 0 _ rfl (by omega) (by rfl) (by rfl) (by rfl) (fun h s' => ?_) (fun h s' h2 => ?_)
    · rw [h]
      repeat' (first | refine w_seq ?_ | refine w_ops ?_ | refine st_nil ?_ | refine th_n ?_ | refine bk_x ?_ | refine w_ret ?_ | refine mv_c rfl ?_)
      exact fin_r rfl rfl
    · rw [h, ← put_same h2]
      repeat' (first | refine th_r ?_ | refine bk_r ?_)
      exact fin_r rfl rfl
  · rw [decide_eq_false (by omega), Bool.false_and]
    repeat' (first | refine len_sl rfl (List.length_map _) ?_ | refine w_seq ?_ | refine w_ops ?_ | refine st_nil ?_ | refine th_n ?_ | refine th_r ?_ | refine w_ret ?_ | refine w_true rfl ?_ | refine mv_c rfl ?_ | refine gtr_t rfl rfl (by omega) ?_ | refine box_ rfl rfl rfl (fun u => ?_) | refine load_ptr rfl (by decide) rfl (Nat.le_of_ble_eq_true rfl) rfl ?_ | refine fad_ptr rfl rfl rfl ?_)
    exact fin_r rfl rfl
end Go.Proofs.Ytcmejdkjfekoeaa
namespace Go.Proofs.Ytcmejdkjfekoeaa
open Go.Pl Go.Bag
set_option maxHeartbeats 8000000
theorem gd_s {C : CallP} {K : Ex → PS → Prop} (d : DimS) (hlen : d.sizes.length ≤ 4) (v : Nat) : ∀ (rest : List Int) (i : Nat) (s : PS), d.sizes.drop i = rest → i ≤ d.sizes.length →
    s.t 1 = .ptr 1 v 0 → s.bx 1 = ⟨v, .var [encIs d.sizes, .sl (d.up.map fun l => [encIs l])]⟩ → s.t 3 = .c (.int .i64 d.sizes.length) → s.t 4 = .c (.int .i64 i) →
    (rest.all (fun n => decide (1 ≤ n ∧ n ≤ 40)) = true → ∀ s', s'.t 1 = .ptr 1 v 0 → s'.bx 1 = ⟨v, .var [encIs d.sizes, .sl (d.up.map fun l => [encIs l])]⟩ → s'.t 3 = .c (.int .i64 d.sizes.length) → K (.x 0) s') →
    (rest.all (fun n => decide (1 ≤ n ∧ n ≤ 40)) = false → ∀ s', s'.t 2 = .c (.bool false) → K .r s') → wP C (.loop b145_0) s K := by
  intro rest
  induction rest with
  | nil =>
    intro i s hd hi t1 b1 t3 t4 hx hr
    refine w_loop ?_
    have := drop_end hd hi
    subst this
    rw [← put_same t1, ← box_same b1, ← put_same t3, ← put_same t4]
    unfold b145_0 r145_5 r145_6 r145_7 r145_8
    repeat' (first | refine w_seq ?_ | refine w_ops ?_ | refine st_nil ?_ | refine th_n ?_ | refine th_x ?_ | refine w_exit ?_ | refine w_false rfl ?_ | refine mv_c rfl ?_ | refine lss_f rfl rfl (by omega) ?_)
    exact hx rfl _ (by rfl) (by rfl) (by rfl)
  | cons n rest ih =>
    intro i s hd hi t1 b1 t3 t4 hx hr
    refine w_loop ?_
    have he : (d.sizes.map fun n => [CV.int .i64 n])[i]? = some [.int .i64 n] := get_map hd
    have hil := get_slen hd
    have hn := drop_next hd
    rw [← put_same t1, ← box_same b1, ← put_same t3, ← put_same t4]
    unfold b145_0 r145_5 r145_6 r145_7 r145_8
    by_cases h1 : n < 1
    · repeat' (first | refine w_seq ?_ | refine w_ops ?_ | refine st_nil ?_ | refine th_n ?_ | refine th_r ?_ | refine bk_r ?_ | refine w_block ?_ | refine w_skip ?_ | refine w_ret ?_ | refine w_true rfl ?_ | refine g_no rfl ?_ | refine mv_c rfl ?_ | refine pick_t rfl rfl ?_ | refine lss_t rfl rfl (by omega) ?_ | refine load_rp rfl (Nat.le_of_ble_eq_true rfl) rfl ?_ | refine load_ptr rfl (by decide) rfl (Nat.le_of_ble_eq_true rfl) rfl ?_ | refine fad_ptr rfl rfl rfl ?_ | refine iaS_c rfl rfl (by omega) (by assumption) rfl ?_)
      exact hr (by simp; omega) _ (by rfl)
    · by_cases h2 : n ≤ 40
      · repeat' (first | refine w_seq ?_ | refine w_ops ?_ | refine st_nil ?_ | refine th_n ?_ | refine bk_n ?_ | refine w_block ?_ | refine w_skip ?_ | refine w_true rfl ?_ | refine w_false rfl ?_ | refine g_yes rfl ?_ | refine mv_c rfl ?_ | refine pick_f rfl rfl ?_ | refine lss_t rfl rfl (by omega) ?_ | refine lss_f rfl rfl (by omega) ?_ | refine gtr_f rfl rfl (by omega) ?_ | refine add_in rfl rfl (by omega) ?_ | refine load_rp rfl (Nat.le_of_ble_eq_true rfl) rfl ?_ | refine load_ptr rfl (by decide) rfl (Nat.le_of_ble_eq_true rfl) rfl ?_ | refine fad_ptr rfl rfl rfl ?_ | refine iaS_c rfl rfl (by omega) (by assumption) rfl ?_)
        refine ih (i + 1) _ hn (by omega) (by rfl) (by rfl) (by rfl) (by rfl) (fun h' => hx ?_) (fun h' => hr ?_)
        · simp only [List.all_cons, h', Bool.and_true, decide_eq_true_eq]; omega
        · simp only [List.all_cons, h', Bool.and_false]
      · repeat' (first | refine w_seq ?_ | refine w_ops ?_ | refine st_nil ?_ | refine th_n ?_ | refine th_r ?_ | refine bk_r ?_ | refine w_block ?_ | refine w_skip ?_ | refine w_ret ?_ | refine w_true rfl ?_ | refine g_yes rfl ?_ | refine mv_c rfl ?_ | refine pick_f rfl rfl ?_ | refine lss_t rfl rfl (by omega) ?_ | refine lss_f rfl rfl (by omega) ?_ | refine gtr_t rfl rfl (by omega) ?_ | refine load_rp rfl (Nat.le_of_ble_eq_true rfl) rfl ?_ | refine load_ptr rfl (by decide) rfl (Nat.le_of_ble_eq_true rfl) rfl ?_ | refine fad_ptr rfl rfl rfl ?_ | refine iaS_c rfl rfl (by omega) (by assumption) rfl ?_)
        exact hr (by simp; omega) _ (by rfl)
theorem gd_i {C : CallP} {K : Ex → PS → Prop} (d : DimS) (v : Nat) (k : Nat) (hk : k ≤ 4) (l : List Int) (z : Int) (hl : l.length ≤ 1000) (he : (d.up.map fun l => [encIs l])[k]? = some [encIs l]) (hz : (d.sizes.map fun n => [CV.int .i64 n])[((k : Int) + 1).toNat]? = some [.int .i64 z]) : ∀ (rest : List Int) (i : Nat) (s : PS), l.drop i = rest → i ≤ l.length →
    s.t 1 = .ptr 1 v 0 → s.bx 1 = ⟨v, .var [encIs d.sizes, .sl (d.up.map fun l => [encIs l])]⟩ → s.t 3 = .c (.int .i64 d.sizes.length) → s.t 5 = .c (.int .i64 k) → s.t 6 = .c (.int .i64 i) →
    (rest.all (fun m => decide (0 ≤ m ∧ m < z)) = true → ∀ s', s'.t 1 = .ptr 1 v 0 → s'.bx 1 = ⟨v, .var [encIs d.sizes, .sl (d.up.map fun l => [encIs l])]⟩ → s'.t 3 = .c (.int .i64 d.sizes.length) → s'.t 5 = .c (.int .i64 k) → K (.x 4) s') →
    (rest.all (fun m => decide (0 ≤ m ∧ m < z)) = false → ∀ s', s'.t 2 = .c (.bool false) → K .r s') → wP C (.loop b145_2) s K := by
  intro rest
  induction rest with
  | nil =>
    intro i s hd hi t1 b1 t3 t5 t6 hx hr
    refine w_loop ?_
    have := drop_end hd hi
    subst this
    rw [← put_same t1, ← box_same b1, ← put_same t3, ← put_same t5, ← put_same t6]
    unfold b145_2 r145_15 r145_16 r145_17 r145_18
    repeat' (first | refine len_sl rfl (List.length_map _) ?_ | refine w_seq ?_ | refine w_ops ?_ | refine st_nil ?_ | refine th_n ?_ | refine th_x ?_ | refine w_exit ?_ | refine w_false rfl ?_ | refine mv_c rfl ?_ | refine lss_f rfl rfl (by omega) ?_ | refine load_rp rfl (Nat.le_of_ble_eq_true rfl) rfl ?_ | refine load_ptr rfl (by decide) rfl (Nat.le_of_ble_eq_true rfl) rfl ?_ | refine fad_ptr rfl rfl rfl ?_ | refine iaS_c rfl rfl (by omega) (by assumption) rfl ?_)
    exact hx rfl _ (by rfl) (by rfl) (by rfl) (by rfl)
  | cons m rest ih =>
    intro i s hd hi t1 b1 t3 t5 t6 hx hr
    refine w_loop ?_
    have hm : (l.map fun n => [CV.int .i64 n])[i]? = some [.int .i64 m] := get_map hd
    have hil := get_slen hd
    have hn := drop_next hd
    rw [← put_same t1, ← box_same b1, ← put_same t3, ← put_same t5, ← put_same t6]
    unfold b145_2 r145_15 r145_16 r145_17 r145_18
    by_cases h1 : m < 0
    · repeat' (first | refine len_sl rfl (List.length_map _) ?_ | refine w_seq ?_ | refine w_ops ?_ | refine w_opsD0 rfl ?_ | refine st_nil ?_ | refine th_n ?_ | refine th_r ?_ | refine bk_r ?_ | refine w_block ?_ | refine w_skip ?_ | refine w_ret ?_ | refine w_true rfl ?_ | refine g_no rfl ?_ | refine mv_c rfl ?_ | refine pick_t rfl rfl ?_ | refine lss_t rfl rfl (by omega) ?_ | refine load_rp rfl (Nat.le_of_ble_eq_true rfl) rfl ?_ | refine load_ptr rfl (by decide) rfl (Nat.le_of_ble_eq_true rfl) rfl ?_ | refine fad_ptr rfl rfl rfl ?_ | refine iaS_c rfl rfl (by omega) (by assumption) rfl ?_)
      exact hr (by simp; omega) _ (by rfl)
    · by_cases h2 : m < z
      · repeat' (first | refine len_sl rfl (List.length_map _) ?_ | refine w_seq ?_ | refine w_ops ?_ | refine w_opsD0 rfl ?_ | refine st_nil ?_ | refine th_n ?_ | refine bk_n ?_ | refine w_block ?_ | refine w_skip ?_ | refine w_true rfl ?_ | refine w_false rfl ?_ | refine g_yes rfl ?_ | refine mv_c rfl ?_ | refine pick_f rfl rfl ?_ | refine lss_t rfl rfl (by omega) ?_ | refine lss_f rfl rfl (by omega) ?_ | refine geq_f rfl rfl (by omega) ?_ | refine add_in rfl rfl (by omega) ?_ | refine load_rp rfl (Nat.le_of_ble_eq_true rfl) rfl ?_ | refine load_ptr rfl (by decide) rfl (Nat.le_of_ble_eq_true rfl) rfl ?_ | refine fad_ptr rfl rfl rfl ?_ | refine iaS_c rfl rfl (by omega) (by assumption) rfl ?_)
        refine ih (i + 1) _ hn (by omega) (by rfl) (by rfl) (by rfl) (by rfl) (by rfl) (fun h' => hx ?_) (fun h' => hr ?_)
        · simp only [List.all_cons, h', Bool.and_true, decide_eq_true_eq]; omega
        · simp only [List.all_cons, h', Bool.and_false]
      · repeat' (first | refine len_sl rfl (List.length_map _) ?_ | refine w_seq ?_ | refine w_ops ?_ | refine w_opsD0 rfl ?_ | refine st_nil ?_ | refine th_n ?_ | refine th_r ?_ | refine bk_r ?_ | refine w_block ?_ | refine w_skip ?_ | refine w_ret ?_ | refine w_true rfl ?_ | refine g_yes rfl ?_ | refine mv_c rfl ?_ | refine pick_f rfl rfl ?_ | refine lss_t rfl rfl (by omega) ?_ | refine lss_f rfl rfl (by omega) ?_ | refine geq_t rfl rfl (by omega) ?_ | refine add_in rfl rfl (by omega) ?_ | refine load_rp rfl (Nat.le_of_ble_eq_true rfl) rfl ?_ | refine load_ptr rfl (by decide) rfl (Nat.le_of_ble_eq_true rfl) rfl ?_ | refine fad_ptr rfl rfl rfl ?_ | refine iaS_c rfl rfl (by omega) (by assumption) rfl ?_)
        exact hr (by simp; omega) _ (by rfl)
theorem gd_o {C : CallP} {K : Ex → PS → Prop} (d : DimS) (hlen : d.sizes.length ≤ 4) (hul : d.up.length + 1 = d.sizes.length) (hs : d.sizes.all (fun n => decide (1 ≤ n ∧ n ≤ 40)) = true) (v : Nat) : ∀ (rest : List (List Int)) (k : Nat) (s : PS), d.up.drop k = rest → k ≤ d.up.length →
    s.t 1 = .ptr 1 v 0 → s.bx 1 = ⟨v, .var [encIs d.sizes, .sl (d.up.map fun l => [encIs l])]⟩ → s.t 3 = .c (.int .i64 d.sizes.length) → s.t 5 = .c (.int .i64 k) →
    (upOk (d.sizes.drop k) rest = true → ∀ s', K (.x 2) s') →
    (upOk (d.sizes.drop k) rest = false → ∀ s', s'.t 2 = .c (.bool false) → K .r s') → wP C (.loop b145_1) s K := by
  intro rest
  induction rest with
  | nil =>
    intro k s hd hi t1 b1 t3 t5 hx hr
    refine w_loop ?_
    have := drop_end hd hi
    subst this
    rw [← put_same t1, ← box_same b1, ← put_same t3, ← put_same t5]
    unfold b145_1 r145_10 r145_11 r145_12 r145_13 r145_14
    repeat' (first | refine w_seq ?_ | refine w_ops ?_ | refine st_nil ?_ | refine th_n ?_ | refine th_x ?_ | refine w_exit ?_ | refine w_false rfl ?_ | refine mv_c rfl ?_ | refine lss_f rfl rfl (by omega) ?_ | refine sub_in rfl rfl (by omega) ?_)
    refine hx ?_ _
    have : d.sizes.drop d.up.length = [d.sizes[d.up.length]] := by
      rw [List.drop_eq_getElem_cons (by omega), List.drop_of_length_le (by omega)]
    rw [this]; rfl
  | cons l rest ih =>
    intro k s hd hi t1 b1 t3 t5 hx hr
    refine w_loop ?_
    have he : (d.up.map fun l => [encIs l])[k]? = some [encIs l] := get_map hd
    have hil := get_slen hd
    have hn := drop_next hd
    have e0 : d.sizes.drop k = d.sizes[k] :: d.sizes[k + 1] :: d.sizes.drop (k + 2) := by
      rw [List.drop_eq_getElem_cons (by omega), List.drop_eq_getElem_cons (by omega)]
    have hz : (d.sizes.map fun n => [CV.int .i64 n])[k]? = some [.int .i64 d.sizes[k]] := get_map e0
    have hz1 : (d.sizes.map fun n => [CV.int .i64 n])[((k : Int) + 1).toNat]? = some [.int .i64 d.sizes[k + 1]] := by
      have : ((k : Int) + 1).toNat = k + 1 := by omega
      rw [this]; exact get_map (drop_next e0)
    have e1 : d.sizes.drop (k + 1) = d.sizes[k + 1] :: d.sizes.drop (k + 2) := drop_next e0
    have hb : d.sizes[k] ≤ 40 := by
      have := List.all_eq_true.mp hs _ (List.getElem_mem (show k < d.sizes.length by omega))
      simp at this; exact this.2
    rw [e0] at hx hr
    simp only [upOk] at hx hr
    generalize d.sizes[k] = y at *
    generalize d.sizes[k + 1] = z at *
    rw [← put_same t1, ← box_same b1, ← put_same t3, ← put_same t5]
    unfold b145_1 r145_10 r145_11 r145_12 r145_13 r145_14
    by_cases h1 : (l.length : Int) = y
    · repeat' (first | refine len_sl rfl (List.length_map _) ?_ | refine w_seq ?_ | refine w_ops ?_ | refine w_opsD0 rfl ?_ | refine st_nil ?_ | refine th_n ?_ | refine w_block ?_ | refine w_skip ?_ | refine w_true rfl ?_ | refine w_false rfl ?_ | refine mv_c rfl ?_ | refine lss_t rfl rfl (by omega) ?_ | refine neq_f rfl rfl (by omega) ?_ | refine sub_in rfl rfl (by omega) ?_ | refine load_rp rfl (Nat.le_of_ble_eq_true rfl) rfl ?_ | refine load_ptr rfl (by decide) rfl (Nat.le_of_ble_eq_true rfl) rfl ?_ | refine fad_ptr rfl rfl rfl ?_ | refine iaS_c rfl rfl (by omega) (by assumption) rfl ?_)
      refine gd_i d v k (by omega) l z (by omega) he hz1 l 0 _ rfl (by omega) (by rfl) (by rfl) (by rfl) (by rfl) (by rfl) (fun h s' t1 b1 t3 t5 => ?_) (fun h s' h2 => ?_)
      · rw [← put_same t1, ← box_same b1, ← put_same t3, ← put_same t5]
        repeat' (first | refine w_ops ?_ | refine st_nil ?_ | refine th_n ?_ | refine bk_n ?_ | refine bk_x ?_ | refine mv_c rfl ?_ | refine add_in rfl rfl (by omega) ?_)
        refine ih (k + 1) _ hn (by omega) (by rfl) (by rfl) (by rfl) (by rfl) (fun h' => hx ?_) (fun h' => hr ?_)
        · rw [e1] at h'; simp only [h', h, decide_eq_true h1, Bool.and_self]
        · rw [e1] at h'; simp only [h', Bool.and_false]
      · rw [← put_same h2]
        repeat' (first | refine th_r ?_ | refine bk_r ?_)
        refine hr ?_ _ (by rfl)
        simp only [h, Bool.and_false, Bool.false_and]
    · repeat' (first | refine len_sl rfl (List.length_map _) ?_ | refine w_seq ?_ | refine w_ops ?_ | refine w_opsD0 rfl ?_ | refine st_nil ?_ | refine th_n ?_ | refine th_r ?_ | refine bk_r ?_ | refine w_block ?_ | refine w_skip ?_ | refine w_ret ?_ | refine w_true rfl ?_ | refine mv_c rfl ?_ | refine lss_t rfl rfl (by omega) ?_ | refine neq_t rfl rfl (by omega) ?_ | refine sub_in rfl rfl (by omega) ?_ | refine load_rp rfl (Nat.le_of_ble_eq_true rfl) rfl ?_ | refine load_ptr rfl (by decide) rfl (Nat.le_of_ble_eq_true rfl) rfl ?_ | refine fad_ptr rfl rfl rfl ?_ | refine iaS_c rfl rfl (by omega) (by assumption) rfl ?_)
      refine hr ?_ _ (by rfl)
      simp only [decide_eq_false h1, Bool.false_and]
theorem C_d3Good (d : DimS) (h0 : d.sizes.length ≤ 9223372036854775807) (h1 : d.up.length ≤ 9223372036854775807) : PCallG Try.prog 145 [.c (.agg (encDim d))] (.c (.bool (goodDim d))) [] := by
  refine pcallF Try.func145 c145 rfl ?_
  unfold encDim goodDim
  unfold p145 r145_0 r145_1 r145_2 r145_3 r145_4 r145_9 r145_19
  by_cases a : 1 ≤ d.sizes.length ∧ d.sizes.length ≤ 4
  · by_cases b : d.up.length + 1 = d.sizes.length
    · rw [decide_eq_true a, decide_eq_true b, Bool.true_and, Bool.true_and]
      repeat' (first | refine len_sl rfl (List.length_map _) ?_ | refine w_seq ?_ | refine w_ops ?_ | refine st_nil ?_ | refine th_n ?_ | refine w_block ?_ | refine w_skip ?_ | refine w_false rfl ?_ | refine g_yes rfl ?_ | refine mv_c rfl ?_ | refine pick_f rfl rfl ?_ | refine lss_f rfl rfl (by omega) ?_ | refine gtr_f rfl rfl (by omega) ?_ | refine neq_f rfl rfl (by omega) ?_ | refine sub_in rfl rfl (by omega) ?_ | refine box_ rfl rfl rfl (fun u => ?_) | refine load_ptr rfl (by decide) rfl (Nat.le_of_ble_eq_true rfl) rfl ?_ | refine fad_ptr rfl rfl rfl ?_)
      refine gd_s d a.2 _ d.sizes 0 _ rfl (by omega) (by rfl) (by rfl) (by rfl) (by rfl) (fun h s' t1 b1 t3 => ?_) (fun h s' h2 => ?_)
      · rw [h, Bool.true_and, ← put_same t1, ← box_same b1, ← put_same t3]
        repeat' (first | refine w_seq ?_ | refine w_ops ?_ | refine st_nil ?_ | refine th_n ?_ | refine bk_x ?_ | refine w_block ?_ | refine mv_c rfl ?_)
        refine gd_o d a.2 b h _ d.up 0 _ rfl (by omega) (by rfl) (by rfl) (by rfl) (by rfl) (fun h s' => ?_) (fun h s' h2 => ?_)
        · rw [List.drop_zero] at h
          rw [h]
          repeat' (first | refine w_seq ?_ | refine w_ops ?_ | refine st_nil ?_ | refine th_n ?_ | refine bk_x ?_ | refine w_ret ?_ | refine mv_c rfl ?_)
          exact fin_r rfl rfl
        · rw [List.drop_zero] at h
          rw [h, ← put_same h2]
          repeat' (first | refine th_r ?_ | refine bk_r ?_)
          exact fin_r rfl rfl
      · rw [h, Bool.false_and, ← put_same h2]
        repeat' (first | refine th_r ?_ | refine bk_r ?_)
        exact fin_r rfl rfl
    · rw [decide_eq_false b, Bool.false_and, Bool.and_false]
      repeat' (first | refine len_sl rfl (List.length_map _) ?_ | refine w_seq ?_ | refine w_ops ?_ | refine st_nil ?_ | refine th_n ?_ | refine th_r ?_ | refine w_ret ?_ | refine w_true rfl ?_ | refine g_yes rfl ?_ | refine mv_c rfl ?_ | refine pick_f rfl rfl ?_ | refine lss_f rfl rfl (by omega) ?_ | refine gtr_f rfl rfl (by omega) ?_ | refine neq_t rfl rfl (by omega) ?_ | refine sub_in rfl rfl (by omega) ?_ | refine box_ rfl rfl rfl (fun u => ?_) | refine load_ptr rfl (by decide) rfl (Nat.le_of_ble_eq_true rfl) rfl ?_ | refine fad_ptr rfl rfl rfl ?_)
      exact fin_r rfl rfl
  · rw [decide_eq_false a, Bool.false_and]
    by_cases a1 : d.sizes.length < 1
    · repeat' (first | refine len_sl rfl (List.length_map _) ?_ | refine w_seq ?_ | refine w_ops ?_ | refine st_nil ?_ | refine th_n ?_ | refine th_r ?_ | refine w_ret ?_ | refine w_true rfl ?_ | refine g_no rfl ?_ | refine mv_c rfl ?_ | refine pick_t rfl rfl ?_ | refine lss_t rfl rfl (by omega) ?_ | refine box_ rfl rfl rfl (fun u => ?_) | refine load_ptr rfl (by decide) rfl (Nat.le_of_ble_eq_true rfl) rfl ?_ | refine fad_ptr rfl rfl rfl ?_)
      exact fin_r rfl rfl
    · repeat' (first | refine len_sl rfl (List.length_map _) ?_ | refine w_seq ?_ | refine w_ops ?_ | refine st_nil ?_ | refine th_n ?_ | refine th_r ?_ | refine w_ret ?_ | refine w_true rfl ?_ | refine g_yes rfl ?_ | refine g_no rfl ?_ | refine mv_c rfl ?_ | refine pick_t rfl rfl ?_ | refine pick_f rfl rfl ?_ | refine lss_f rfl rfl (by omega) ?_ | refine gtr_t rfl rfl (by omega) ?_ | refine box_ rfl rfl rfl (fun u => ?_) | refine load_ptr rfl (by decide) rfl (Nat.le_of_ble_eq_true rfl) rfl ?_ | refine fad_ptr rfl rfl rfl ?_)
      exact fin_r rfl rfl
end Go.Proofs.Ytcmejdkjfekoeaa

/- Part of the proof of DeltaTells, DeltaApplies, DeltaBack, DeltaJoins, DeltaSpoilt: lemmas. -/
import Derived.Test.YtcmejdkjfekoeaaDeltaS5
import Derived.Test.YtcmejdkjfekoeaaDeltaS6
import Derived.Test.YtcmejdkjfekoeaaDeltaS7
set_option linter.unusedVariables false
set_option linter.unusedSimpArgs false
namespace Go.Proofs.Ytcmejdkjfekoeaa
open Go.Pl Go.Bag
set_option maxHeartbeats 4000000
theorem slc_tail {C : CallP} {l : List POp} {s : PS} {K : PS → Prop} {d sz : Nat} {x : PO} {e : List CV} {es : List (List CV)} (hx : s.ev x = .c (.sl (e :: es))) (hw : ∀ q ∈ e :: es, q.length = sz)
    (h : wL C l (s.put d (.c (.sl es))) K) : wL C (⟨some d, .slc sz x (some (.k (.int .i64 1))) none, none⟩ :: l) s K :=
  slc_c hx rfl rfl ⟨Nat.le_add_left _ _, Nat.le_refl _⟩ hw (by
    show ((e :: es).take (e :: es).length).drop 1 = es
    simp) h
theorem join_loop {K : Ex → PS → Prop} (v2 v3 : Nat) : ∀ (m : Nat) (out a b : List Run) (s : PS), a.length + b.length = m → out.length + m < 1000000000 → pos out → pos a → pos b → sum out + sum a + sum b ≤ 4398046511104 →
    s.t 2 = .ptr 2 v2 0 → s.bx 2 = ⟨v2, .var [encL a]⟩ → s.t 3 = .ptr 3 v3 0 → s.bx 3 = ⟨v3, .var [encL b]⟩ → s.t 6 = .osl 6 (s.bx 6).ver 0 (encE out).length → s.bx 6 = ⟨(s.bx 6).ver, .sl 2 (encE out)⟩ →
    (∀ s' v, s'.t 6 = .osl 6 v 0 (encE (merge out a b)).length → s'.bx 6 = ⟨v, .sl 2 (encE (merge out a b))⟩ → K (.x 0) s') → wP (PCallG Try.prog) (.loop b25_0) s K := by
  intro m
  induction m with
  | zero =>
    intro out a b s hm hl po pa pb hs t2 b2 t3 b3 t6 b6 hx
    generalize (s.bx 6).ver = v6 at t6 b6
    obtain rfl : a = [] := List.eq_nil_of_length_eq_zero (by omega)
    obtain rfl : b = [] := List.eq_nil_of_length_eq_zero (by omega)
    refine w_loop ?_
    rw [← put_same t2, ← put_same t3, ← put_same t6, ← box_same b2, ← box_same b3, ← box_same b6]
    unfold b25_0 r25_4 r25_5 r25_6 r25_7 r25_8 r25_9
    repeat' (first | refine len_sl rfl rfl ?_ | refine w_seq ?_ | refine w_ops ?_ | refine st_nil ?_ | refine th_n ?_ | refine th_x ?_ | refine w_exit ?_ | refine w_false rfl ?_ | refine g_yes rfl ?_ | refine mv_c rfl ?_ | refine pick_f rfl rfl ?_ | refine gtr_ rfl rfl ?_ | refine load_ptr rfl (by decide) rfl (Nat.le_of_ble_eq_true rfl) rfl ?_)
    exact hx _ _ (by simp only [merge]; rfl) (by simp only [merge]; rfl)
  | succ m ih =>
    intro out a b s hm hl po pa pb hs t2 b2 t3 b3 t6 b6 hx
    generalize (s.bx 6).ver = v6 at t6 b6
    have ho := sum_nonneg po
    have ha := sum_nonneg pa
    have hb := sum_nonneg pb
    have fa : ∀ (r : Run) (a' : List Run), a = r :: a' → 1 ≤ r.2 ∧ pos a' ∧ sum a = r.2 + sum a' ∧ 0 ≤ sum a' := fun r a' e => by
      subst e; exact ⟨pa r (by simp), fun q hq => pa q (by simp [hq]), rfl, sum_nonneg fun q hq => pa q (by simp [hq])⟩
    have fb : ∀ (r : Run) (b' : List Run), b = r :: b' → 1 ≤ r.2 ∧ pos b' ∧ sum b = r.2 + sum b' ∧ 0 ≤ sum b' := fun r a' e => by
      subst e; exact ⟨pb r (by simp), fun q hq => pb q (by simp [hq]), rfl, sum_nonneg fun q hq => pb q (by simp [hq])⟩
    have hM : ∀ (r : Run), 1 ≤ r.2 → r.2 ≤ 4398046511104 → PCallG Try.prog 84 [.own 2 (encE out), .c (.int .i64 r.1), .c (.int .i64 r.2)] (.own 2 (encE (moreL out r.1 r.2))) [] := fun r h1 h2 =>
      C_more out r.1 r.2 (by omega) fun q hq => by have := le_sum po q hq; omega
    refine w_loop ?_
    rw [← put_same t2, ← put_same t3, ← put_same t6, ← box_same b2, ← box_same b3, ← box_same b6]
    unfold b25_0 r25_4 r25_5 r25_6 r25_7 r25_8 r25_9
    match a, b, hm with
    | [], s :: b', hm =>
      obtain ⟨f1, f2, f3, f4⟩ := fb s b' rfl
      have hc := hM s f1 (by omega)
      have h0 : ((s :: b').map encR)[(0 : Int).toNat]? = some (encR s) := rfl
      have hp : 0 < (s :: b').length := by simp
      have e : merge out [] (s :: b') = merge (moreL out s.1 s.2) [] b' := by simp only [merge]
      rw [e] at hx
      repeat' (first | refine len_sl (es := ([] : List Run).map encR) rfl rfl ?_ | refine callO2 rfl rfl rfl rfl rfl hc rfl (fun _ _ => ?_) | refine slc_tail (es := b'.map encR) rfl (encR_len (s :: b')) ?_ | refine w_seq ?_ | refine w_ops ?_ | refine w_opsD0 rfl ?_ | refine w_opsD1 rfl (fun u => ?_) | refine st_nil ?_ | refine th_n ?_ | refine bk_n ?_ | refine w_block ?_ | refine w_skip ?_ | refine w_true rfl ?_ | refine g_yes rfl ?_ | refine g_no rfl ?_ | refine g_un rfl ?_ | refine mv_c rfl ?_ | refine mv_ptr rfl ?_ | refine mv_osl rfl ?_ | refine pick_t rfl rfl ?_ | refine pick_f rfl rfl ?_ | refine gtr_t rfl rfl (by omega) ?_ | refine gtr_ rfl rfl ?_ | refine eqd_ rfl rfl ?_ | refine load_rp rfl (Nat.le_of_ble_eq_true rfl) rfl ?_ | refine load_ptr rfl (by decide) rfl (Nat.le_of_ble_eq_true rfl) rfl ?_ | refine store_ptr rfl rfl (by decide) rfl rfl (Nat.le_of_ble_eq_true rfl) rfl ?_ | refine fad_rp rfl (Nat.le_of_ble_eq_true rfl) rfl ?_ | refine iaS_c rfl rfl (by omega) (by assumption) rfl ?_ | refine len_sl rfl (by first | assumption | exact List.length_map _) ?_ | refine w_rn rfl (by decide) rfl rfl (fun _ _ => ?_) | refine nilc_ptr rfl rfl ?_)
      exact ih (moreL out s.1 s.2) [] b' _ (by simpa using hm) (by have := moreL_len out s.1 s.2; omega) (moreL_pos po f1) pa f2 (by rw [moreL_sum]; omega) (by rfl) (by rfl) (by rfl) (by rfl) (by rfl) (by rfl) hx
    | r :: a', [], hm =>
      obtain ⟨f1, f2, f3, f4⟩ := fa r a' rfl
      have hc := hM r f1 (by omega)
      have h0 : ((r :: a').map encR)[(0 : Int).toNat]? = some (encR r) := rfl
      have hp : 0 < (r :: a').length := by simp
      have e : merge out (r :: a') [] = merge (moreL out r.1 r.2) a' [] := by simp only [merge]
      rw [e] at hx
      repeat' (first | refine len_sl (es := ([] : List Run).map encR) rfl rfl ?_ | refine callO2 rfl rfl rfl rfl rfl hc rfl (fun _ _ => ?_) | refine slc_tail (es := a'.map encR) rfl (encR_len (r :: a')) ?_ | refine w_seq ?_ | refine w_ops ?_ | refine w_opsD0 rfl ?_ | refine w_opsD1 rfl (fun u => ?_) | refine st_nil ?_ | refine th_n ?_ | refine bk_n ?_ | refine w_block ?_ | refine w_skip ?_ | refine w_true rfl ?_ | refine w_false rfl ?_ | refine g_yes rfl ?_ | refine g_no rfl ?_ | refine mv_c rfl ?_ | refine mv_ptr rfl ?_ | refine mv_osl rfl ?_ | refine pick_t rfl rfl ?_ | refine pick_f rfl rfl ?_ | refine gtr_t rfl rfl (by omega) ?_ | refine gtr_ rfl rfl ?_ | refine eql_f rfl rfl (by omega) ?_ | refine load_rp rfl (Nat.le_of_ble_eq_true rfl) rfl ?_ | refine load_ptr rfl (by decide) rfl (Nat.le_of_ble_eq_true rfl) rfl ?_ | refine store_ptr rfl rfl (by decide) rfl rfl (Nat.le_of_ble_eq_true rfl) rfl ?_ | refine fad_rp rfl (Nat.le_of_ble_eq_true rfl) rfl ?_ | refine iaS_c rfl rfl (by omega) (by assumption) rfl ?_ | refine len_sl rfl (by first | assumption | exact List.length_map _) ?_ | refine w_rn rfl (by decide) rfl rfl (fun _ _ => ?_) | refine nilc_ptr rfl rfl ?_)
      exact ih (moreL out r.1 r.2) a' [] _ (by simpa using hm) (by have := moreL_len out r.1 r.2; omega) (moreL_pos po f1) f2 pb (by rw [moreL_sum]; omega) (by rfl) (by rfl) (by rfl) (by rfl) (by rfl) (by rfl) hx
    | r :: a', s :: b', hm =>
      obtain ⟨f1, f2, f3, f4⟩ := fa r a' rfl
      obtain ⟨g1, g2, g3, g4⟩ := fb s b' rfl
      have hc := hM r f1 (by omega)
      have hd := hM s g1 (by omega)
      have h0 : ((r :: a').map encR)[(0 : Int).toNat]? = some (encR r) := rfl
      have h1 : ((s :: b').map encR)[(0 : Int).toNat]? = some (encR s) := rfl
      have hp : 0 < (r :: a').length := by simp
      have hq : 0 < (s :: b').length := by simp
      by_cases hlt : s.1 < r.1
      · have e : merge out (r :: a') (s :: b') = merge (moreL out s.1 s.2) (r :: a') b' := by rw [merge]; simp [hlt]
        rw [e] at hx
        repeat' (first | refine callO2 rfl rfl rfl rfl rfl hd rfl (fun _ _ => ?_) | refine slc_tail (es := b'.map encR) rfl (encR_len (s :: b')) ?_ | refine w_seq ?_ | refine w_ops ?_ | refine w_opsD0 rfl ?_ | refine w_opsD1 rfl (fun u => ?_) | refine st_nil ?_ | refine th_n ?_ | refine bk_n ?_ | refine w_block ?_ | refine w_skip ?_ | refine w_true rfl ?_ | refine g_yes rfl ?_ | refine g_no rfl ?_ | refine mv_c rfl ?_ | refine mv_ptr rfl ?_ | refine mv_osl rfl ?_ | refine pick_t rfl rfl ?_ | refine pick_f rfl rfl ?_ | refine lss_t rfl rfl (by omega) ?_ | refine gtr_t rfl rfl (by omega) ?_ | refine eql_f rfl rfl (by omega) ?_ | refine load_rp rfl (Nat.le_of_ble_eq_true rfl) rfl ?_ | refine load_ptr rfl (by decide) rfl (Nat.le_of_ble_eq_true rfl) rfl ?_ | refine store_ptr rfl rfl (by decide) rfl rfl (Nat.le_of_ble_eq_true rfl) rfl ?_ | refine fad_rp rfl (Nat.le_of_ble_eq_true rfl) rfl ?_ | refine iaS_c rfl rfl (by omega) (by assumption) rfl ?_ | refine len_sl rfl (by first | assumption | exact List.length_map _) ?_ | refine w_rn rfl (by decide) rfl rfl (fun _ _ => ?_) | refine nilc_ptr rfl rfl ?_)
        exact ih (moreL out s.1 s.2) (r :: a') b' _ (by simp at hm ⊢; omega) (by have := moreL_len out s.1 s.2; omega) (moreL_pos po g1) pa g2 (by rw [moreL_sum]; omega) (by rfl) (by rfl) (by rfl) (by rfl) (by rfl) (by rfl) hx
      · have e : merge out (r :: a') (s :: b') = merge (moreL out r.1 r.2) a' (s :: b') := by rw [merge]; simp [hlt]
        rw [e] at hx
        repeat' (first | refine callO2 rfl rfl rfl rfl rfl hc rfl (fun _ _ => ?_) | refine slc_tail (es := a'.map encR) rfl (encR_len (r :: a')) ?_ | refine w_seq ?_ | refine w_ops ?_ | refine w_opsD0 rfl ?_ | refine w_opsD1 rfl (fun u => ?_) | refine st_nil ?_ | refine th_n ?_ | refine bk_n ?_ | refine w_block ?_ | refine w_skip ?_ | refine w_true rfl ?_ | refine w_false rfl ?_ | refine g_yes rfl ?_ | refine g_no rfl ?_ | refine mv_c rfl ?_ | refine mv_ptr rfl ?_ | refine mv_osl rfl ?_ | refine pick_t rfl rfl ?_ | refine pick_f rfl rfl ?_ | refine lss_f rfl rfl (by omega) ?_ | refine gtr_t rfl rfl (by omega) ?_ | refine eql_f rfl rfl (by omega) ?_ | refine load_rp rfl (Nat.le_of_ble_eq_true rfl) rfl ?_ | refine load_ptr rfl (by decide) rfl (Nat.le_of_ble_eq_true rfl) rfl ?_ | refine store_ptr rfl rfl (by decide) rfl rfl (Nat.le_of_ble_eq_true rfl) rfl ?_ | refine fad_rp rfl (Nat.le_of_ble_eq_true rfl) rfl ?_ | refine iaS_c rfl rfl (by omega) (by assumption) rfl ?_ | refine len_sl rfl (by first | assumption | exact List.length_map _) ?_ | refine w_rn rfl (by decide) rfl rfl (fun _ _ => ?_) | refine nilc_ptr rfl rfl ?_)
        exact ih (moreL out r.1 r.2) a' (s :: b') _ (by simp at hm ⊢; omega) (by have := moreL_len out r.1 r.2; omega) (moreL_pos po f1) f2 pb (by rw [moreL_sum]; omega) (by rfl) (by rfl) (by rfl) (by rfl) (by rfl) (by rfl) hx
theorem C_Join (a b : List Run) (ha : a.length < 400000000) (hb : b.length < 400000000) : PCallG Try.prog 25 [.c (encL a), .c (encL b)] (.c (.tup [encL (join a b).1, .bool (join a b).2])) [] := by
  refine pcallF Try.func25 c25 rfl ?_
  unfold p25 r25_0 r25_1 r25_2 r25_3 r25_10
  have hA := C_good a (by omega)
  have hB := C_good b (by omega)
  cases ga : good a with
  | false =>
    rw [ga] at hA
    repeat' (first | refine box_ rfl (cs := [encL a]) rfl rfl (fun _ => ?_) | refine box_ rfl (cs := [encL b]) rfl rfl (fun _ => ?_) | refine call1 rfl hA ?_ | refine w_seq ?_ | refine w_ops ?_ | refine w_opsD0 rfl ?_ | refine st_nil ?_ | refine th_n ?_ | refine th_r ?_ | refine w_ret ?_ | refine w_true rfl ?_ | refine g_no rfl ?_ | refine mv_c rfl ?_ | refine pick_t rfl rfl ?_ | refine not_ rfl ?_ | refine load_ptr rfl (by decide) rfl (Nat.le_of_ble_eq_true rfl) rfl ?_)
    exact fin_r rfl (by simp [one_, join, ga, encL])
  | true =>
    rw [ga] at hA
    obtain ⟨pa, sa⟩ := good_facts ga
    have na := sum_nonneg pa
    cases gb : good b with
    | false =>
      rw [gb] at hB
      repeat' (first | refine box_ rfl (cs := [encL a]) rfl rfl (fun _ => ?_) | refine box_ rfl (cs := [encL b]) rfl rfl (fun _ => ?_) | refine call1 rfl hA ?_ | refine call1 rfl hB ?_ | refine w_seq ?_ | refine w_ops ?_ | refine w_opsD0 rfl ?_ | refine st_nil ?_ | refine th_n ?_ | refine th_r ?_ | refine w_ret ?_ | refine w_true rfl ?_ | refine g_yes rfl ?_ | refine g_no rfl ?_ | refine mv_c rfl ?_ | refine pick_t rfl rfl ?_ | refine pick_f rfl rfl ?_ | refine not_ rfl ?_ | refine load_ptr rfl (by decide) rfl (Nat.le_of_ble_eq_true rfl) rfl ?_)
      exact fin_r rfl (by simp [one_, join, gb, encL])
    | true =>
      rw [gb] at hB
      obtain ⟨pb, sb⟩ := good_facts gb
      have nb := sum_nonneg pb
      have hSa := C_count a (by omega) pa sa
      have hSb := C_count b (by omega) pb sb
      have sa' : sum a ≤ 1099511627776 := sa
      have sb' : sum b ≤ 1099511627776 := sb
      by_cases hle : sum a ≤ 1099511627776 - sum b
      · repeat' (first | refine box_ rfl (cs := [encL a]) rfl rfl (fun _ => ?_) | refine box_ rfl (cs := [encL b]) rfl rfl (fun _ => ?_) | refine call1 rfl hA ?_ | refine call1 rfl hB ?_ | refine call1 rfl hSa ?_ | refine call1 rfl hSb ?_ | refine w_seq ?_ | refine w_ops ?_ | refine w_opsD0 rfl ?_ | refine st_nil ?_ | refine th_n ?_ | refine w_block ?_ | refine w_skip ?_ | refine w_false rfl ?_ | refine g_yes rfl ?_ | refine mv_c rfl ?_ | refine pick_f rfl rfl ?_ | refine gtr_f rfl rfl (by omega) ?_ | refine not_ rfl ?_ | refine sub_in rfl rfl (by omega) ?_ | refine own0_ (fun u => ?_) | refine load_ptr rfl (by decide) rfl (Nat.le_of_ble_eq_true rfl) rfl ?_)
        refine join_loop _ _ _ [] a b _ rfl (by simp; omega) (fun q hq => by simp at hq) pa pb (by simp [sum]; omega) rfl rfl rfl rfl rfl rfl ?_
        intro s' v t6 b6
        rw [← put_same t6, ← box_same b6]
        repeat' (first | refine w_seq ?_ | refine w_ops ?_ | refine st_nil ?_ | refine th_n ?_ | refine bk_x ?_ | refine w_ret ?_ | refine mv_c rfl ?_ | refine mv_osl rfl ?_)
        refine fin_r (rv_own rfl rfl rfl (rv_t rfl rv_nil)) ?_
        simp [one_, join, ga, gb, hle, encL, encE]
      · repeat' (first | refine box_ rfl (cs := [encL a]) rfl rfl (fun _ => ?_) | refine box_ rfl (cs := [encL b]) rfl rfl (fun _ => ?_) | refine call1 rfl hA ?_ | refine call1 rfl hB ?_ | refine call1 rfl hSa ?_ | refine call1 rfl hSb ?_ | refine w_seq ?_ | refine w_ops ?_ | refine w_opsD0 rfl ?_ | refine st_nil ?_ | refine th_n ?_ | refine th_r ?_ | refine w_ret ?_ | refine w_true rfl ?_ | refine g_yes rfl ?_ | refine mv_c rfl ?_ | refine pick_f rfl rfl ?_ | refine gtr_t rfl rfl (by omega) ?_ | refine not_ rfl ?_ | refine sub_in rfl rfl (by omega) ?_ | refine load_ptr rfl (by decide) rfl (Nat.le_of_ble_eq_true rfl) rfl ?_)
        exact fin_r rfl (by simp [one_, join, hle, encL])
end Go.Proofs.Ytcmejdkjfekoeaa
namespace Go.Proofs.Ytcmejdkjfekoeaa
open Go.Pl Go.Bag
set_option maxHeartbeats 4000000
theorem minus_loop {C : CallP} {K : Ex → PS → Prop} (l : List Run) (hlen : l.length < 400000000) : ∀ (rest : List Run) (i : Nat) (out b : List Run) (es : List (List CV)) (s : PS), l.drop i = rest → i ≤ l.length → es = encE out → out.length + rest.length < 1000000000 → b.length < 400000000 →
    (∀ r ∈ rest, 1 ≤ r.2 ∧ r.2 ≤ 1099511627776) → (∀ r ∈ b, 1 ≤ r.2 ∧ r.2 ≤ 1099511627776) →
    s.t 17 = .c (encL l) → s.t 18 = .c (.int .i64 l.length) → s.t 19 = .c (.int .i64 i) → s.t 1 = .c (encL b) → s.t 6 = .osl 6 (s.bx 6).ver 0 es.length → s.bx 6 = ⟨(s.bx 6).ver, .sl 2 es⟩ →
    (∀ s' o b', minusL out rest b = some (o, b') → b'.length < 400000000 → s'.t 1 = .c (encL b') → s'.t 6 = .osl 6 (s'.bx 6).ver 0 (encE o).length → s'.bx 6 = ⟨(s'.bx 6).ver, .sl 2 (encE o)⟩ → K (.x 0) s') →
    (∀ s', minusL out rest b = none → s'.t 4 = .c (.sl []) → s'.t 5 = .c (.bool false) → K .r s') → wP C (.loop b24_0) s K := by
  intro rest
  induction rest with
  | nil =>
    intro i out b es s hd hi he hl hb ha1 hb1 t17 t18 t19 t1 t6 b6 hx hr
    refine w_loop ?_
    have := get_end hd hi
    subst this
    subst he
    generalize (s.bx 6).ver = v6 at t6 b6
    rw [← put_same t18, ← put_same t19, ← put_same t1, ← put_same t6, ← box_same b6]
    unfold b24_0 r24_5 r24_6 r24_7 r24_8 r24_9 r24_10 r24_11 r24_12 r24_13 r24_14
    repeat' (first | refine w_seq ?_ | refine w_ops ?_ | refine st_nil ?_ | refine th_n ?_ | refine th_x ?_ | refine w_exit ?_ | refine w_false rfl ?_ | refine lss_f rfl rfl (by omega) ?_)
    exact hx _ out b rfl hb (by rfl) (by rfl) (by rfl)
  | cons r rest ih =>
    intro i out b es s hd hi he hl hb ha1 hb1 t17 t18 t19 t1 t6 b6 hx hr
    refine w_loop ?_
    have hget := get_enc hd
    have hil := get_len hd
    have hn := get_next hd
    have hr1 := ha1 r (by simp)
    have ha1' : ∀ q ∈ rest, 1 ≤ q.2 ∧ q.2 ≤ 1099511627776 := fun q hq => ha1 q (by simp [hq])
    have hlr : (r :: rest).length = rest.length + 1 := rfl
    have hgrow : ∀ q : List CV, es.length + [q].length ≤ maxGrow := fun q => by
      subst he; simp [encE, maxGrow]; omega
    have hzs : ∀ n, es ++ [[.int .i64 r.1, .int .i64 n]] = encE (out ++ [(r.1, n)]) := fun n => by subst he; simp [encE, encR]
    generalize (s.bx 6).ver = v6 at t6 b6
    rw [← put_same t17, ← put_same t18, ← put_same t19, ← put_same t1, ← put_same t6, ← box_same b6]
    unfold b24_0 r24_5 r24_6 r24_7 r24_8 r24_9 r24_10 r24_11 r24_12 r24_13 r24_14
    match b, hb, hb1 with
    | [], hb, hb1 =>
      have e : minusL out (r :: rest) [] = minusL (out ++ [(r.1, r.2)]) rest [] := by
        have : ¬ r.2 < 0 := by omega
        have : 0 < r.2 := by omega
        simp [minusL, takeB, *]
      rw [e] at hx hr
      repeat' (first | refine len_sl (es := ([] : List Run).map encR) rfl rfl ?_ | refine app_own rfl rfl rfl rfl (hgrow _) (by intro e he; cases List.mem_singleton.mp he; rfl) rfl rfl (fun _ _ => ?_) | refine w_seq ?_ | refine w_ops ?_ | refine w_opsD0 rfl ?_ | refine st_nil ?_ | refine th_n ?_ | refine bk_n ?_ | refine w_block ?_ | refine w_skip ?_ | refine w_true rfl ?_ | refine w_false rfl ?_ | refine g_no rfl ?_ | refine mv_c rfl ?_ | refine mv_osl rfl ?_ | refine pick_f rfl rfl ?_ | refine lss_t rfl rfl (by omega) ?_ | refine lss_f rfl rfl (by omega) ?_ | refine gtr_t rfl rfl (by omega) ?_ | refine gtr_ rfl rfl ?_ | refine add_in rfl rfl (by omega) ?_ | refine alloc_ (fun u => ?_) | refine bsl_ rfl rfl ?_ | refine load_rp rfl (Nat.le_of_ble_eq_true rfl) rfl ?_ | refine load_ptr rfl (by decide) rfl (Nat.le_of_ble_eq_true rfl) rfl ?_ | refine store_ptr rfl rfl (by decide) rfl rfl (Nat.le_of_ble_eq_true rfl) rfl ?_ | refine fad_ptr rfl rfl rfl ?_ | refine iaS_c rfl rfl (by omega) (by assumption) rfl ?_ | refine w_rn rfl (by decide) rfl rfl (fun _ _ => ?_))
      exact ih (i + 1) (out ++ [(r.1, r.2)]) [] _ _ hn (by omega) (hzs r.2) (by simp; omega) hb ha1' hb1 (by rfl) (by rfl) (by rfl) (by rfl) (by rfl) (by rfl) hx hr
    | q :: b', hb, hb1 =>
      have hq1 := hb1 q (by simp)
      have hb1' : ∀ q ∈ b', 1 ≤ q.2 ∧ q.2 ≤ 1099511627776 := fun p hp => hb1 p (by simp [hp])
      have hb' : b'.length < 400000000 := by simp at hb; omega
      have h0 : ((q :: b').map encR)[(0 : Int).toNat]? = some (encR q) := rfl
      have hp : 0 < (q :: b').length := by simp
      by_cases hv : q.1 = r.1
      · have e : minusL out (r :: rest) (q :: b') = if r.2 - q.2 < 0 then none else minusL (if 0 < r.2 - q.2 then out ++ [(r.1, r.2 - q.2)] else out) rest b' := by
          simp only [minusL, takeB, hv, if_true]
        repeat' (first | refine slc_tail (es := b'.map encR) rfl (encR_len (q :: b')) ?_ | refine app_own rfl rfl rfl rfl (hgrow _) (by intro e he; cases List.mem_singleton.mp he; rfl) rfl rfl (fun _ _ => ?_) | refine w_seq ?_ | refine w_ops ?_ | refine w_opsD0 rfl ?_ | refine st_nil ?_ | refine th_n ?_ | refine th_r ?_ | refine bk_n ?_ | refine bk_r ?_ | refine w_block ?_ | refine w_skip ?_ | refine w_ret ?_ | refine w_true rfl ?_ | refine w_condd rfl (fun hc => ?_) (fun hc => ?_) | refine g_yes rfl ?_ | refine mv_c rfl ?_ | refine mv_osl rfl ?_ | refine pick_t rfl rfl ?_ | refine lss_t rfl rfl (by omega) ?_ | refine lss_ rfl rfl ?_ | refine gtr_t rfl rfl (by omega) ?_ | refine gtr_ rfl rfl ?_ | refine eql_t rfl rfl (by omega) ?_ | refine add_in rfl rfl (by omega) ?_ | refine sub_in rfl rfl (by omega) ?_ | refine alloc_ (fun u => ?_) | refine bsl_ rfl rfl ?_ | refine load_rp rfl (Nat.le_of_ble_eq_true rfl) rfl ?_ | refine load_ptr rfl (by decide) rfl (Nat.le_of_ble_eq_true rfl) rfl ?_ | refine store_ptr rfl rfl (by decide) rfl rfl (Nat.le_of_ble_eq_true rfl) rfl ?_ | refine fad_ptr rfl rfl rfl ?_ | refine fad_rp rfl (Nat.le_of_ble_eq_true rfl) rfl ?_ | refine iaS_c rfl rfl (by omega) (by assumption) rfl ?_ | refine len_sl rfl (by first | assumption | exact List.length_map _) ?_ | refine w_rn_same rfl ?_ | refine w_rn rfl (by decide) rfl rfl (fun _ _ => ?_))
        · rw [if_pos hc] at e
          exact hr _ e rfl rfl
        · rw [if_neg ‹¬ (r.2 - q.2 < 0)›, if_pos hc] at e
          rw [e] at hx hr
          exact ih (i + 1) (out ++ [(r.1, r.2 - q.2)]) b' _ _ hn (by omega) (hzs (r.2 - q.2)) (by simp; omega) hb' ha1' hb1' (by rfl) (by rfl) (by rfl) (by rfl) (by rfl) (by rfl) hx hr
        · rw [if_neg ‹¬ (r.2 - q.2 < 0)›, if_neg hc] at e
          rw [e] at hx hr
          exact ih (i + 1) out b' es _ hn (by omega) he (by omega) hb' ha1' hb1' (by rfl) (by rfl) (by rfl) (by rfl) (by rfl) (by rfl) hx hr
      · have e : minusL out (r :: rest) (q :: b') = minusL (out ++ [(r.1, r.2)]) rest (q :: b') := by
          have h1 : ¬ r.2 < 0 := by omega
          have h2 : 0 < r.2 := by omega
          simp only [minusL, takeB, if_neg hv, if_neg h1, if_pos h2]
        rw [e] at hx hr
        repeat' (first | refine app_own rfl rfl rfl rfl (hgrow _) (by intro e he; cases List.mem_singleton.mp he; rfl) rfl rfl (fun _ _ => ?_) | refine w_seq ?_ | refine w_ops ?_ | refine w_opsD0 rfl ?_ | refine st_nil ?_ | refine th_n ?_ | refine bk_n ?_ | refine w_block ?_ | refine w_skip ?_ | refine w_true rfl ?_ | refine w_false rfl ?_ | refine g_yes rfl ?_ | refine mv_c rfl ?_ | refine mv_osl rfl ?_ | refine pick_t rfl rfl ?_ | refine lss_t rfl rfl (by omega) ?_ | refine lss_f rfl rfl (by omega) ?_ | refine gtr_t rfl rfl (by omega) ?_ | refine eql_f rfl rfl (by omega) ?_ | refine add_in rfl rfl (by omega) ?_ | refine alloc_ (fun u => ?_) | refine bsl_ rfl rfl ?_ | refine load_rp rfl (Nat.le_of_ble_eq_true rfl) rfl ?_ | refine load_ptr rfl (by decide) rfl (Nat.le_of_ble_eq_true rfl) rfl ?_ | refine store_ptr rfl rfl (by decide) rfl rfl (Nat.le_of_ble_eq_true rfl) rfl ?_ | refine fad_ptr rfl rfl rfl ?_ | refine fad_rp rfl (Nat.le_of_ble_eq_true rfl) rfl ?_ | refine iaS_c rfl rfl (by omega) (by assumption) rfl ?_ | refine len_sl rfl (by first | assumption | exact List.length_map _) ?_ | refine w_rn rfl (by decide) rfl rfl (fun _ _ => ?_))
        exact ih (i + 1) (out ++ [(r.1, r.2)]) (q :: b') _ _ hn (by omega) (hzs r.2) (by simp; omega) hb ha1' hb1 (by rfl) (by rfl) (by rfl) (by rfl) (by rfl) (by rfl) hx hr
theorem C_Minus (a b : List Run) (ha : a.length < 400000000) (hb : b.length < 400000000) : PCallG Try.prog 24 [.c (encL a), .c (encL b)] (.c (.tup [encL (minus a b).1, .bool (minus a b).2])) [] := by
  refine pcallF Try.func24 c24 rfl ?_
  unfold p24 r24_0 r24_1 r24_2 r24_3 r24_4 r24_15 r24_16 r24_17
  have hA := C_good a (by omega)
  have hB := C_good b (by omega)
  cases ga : good a with
  | false =>
    rw [ga] at hA
    repeat' (first | refine call1 rfl hA ?_ | refine w_seq ?_ | refine w_ops ?_ | refine st_nil ?_ | refine th_n ?_ | refine th_r ?_ | refine w_ret ?_ | refine w_true rfl ?_ | refine g_no rfl ?_ | refine mv_c rfl ?_ | refine pick_t rfl rfl ?_ | refine not_ rfl ?_)
    exact fin_r rfl (by simp [one_, minus, ga, encL])
  | true =>
    rw [ga] at hA
    obtain ⟨pa, sa⟩ := good_facts ga
    cases gb : good b with
    | false =>
      rw [gb] at hB
      repeat' (first | refine call1 rfl hA ?_ | refine call1 rfl hB ?_ | refine w_seq ?_ | refine w_ops ?_ | refine st_nil ?_ | refine th_n ?_ | refine th_r ?_ | refine w_ret ?_ | refine w_true rfl ?_ | refine g_yes rfl ?_ | refine mv_c rfl ?_ | refine pick_f rfl rfl ?_ | refine not_ rfl ?_)
      exact fin_r rfl (by simp [one_, minus, gb, encL])
    | true =>
      rw [gb] at hB
      obtain ⟨pb, sb⟩ := good_facts gb
      have sa' : sum a ≤ 1099511627776 := sa
      have sb' : sum b ≤ 1099511627776 := sb
      repeat' (first | refine call1 rfl hA ?_ | refine call1 rfl hB ?_ | refine w_seq ?_ | refine w_ops ?_ | refine st_nil ?_ | refine th_n ?_ | refine w_block ?_ | refine w_skip ?_ | refine w_false rfl ?_ | refine g_yes rfl ?_ | refine mv_c rfl ?_ | refine pick_f rfl rfl ?_ | refine not_ rfl ?_ | refine own0_ (fun u => ?_) | refine len_sl rfl (by first | assumption | exact List.length_map _) ?_)
      refine minus_loop a ha a 0 [] b [] _ rfl (by omega) rfl (by simp; omega) hb (fun r hr => by have := le_sum pa r hr; omega) (fun r hr => by have := le_sum pb r hr; omega) (by rfl) (by rfl) (by rfl) (by rfl) (by rfl) (by rfl) ?_ ?_
      · intro s' o b' hm hb'l t1 t6 b6
        generalize (s'.bx 6).ver = v6 at t6 b6
        rw [← put_same t1, ← put_same t6, ← box_same b6]
        cases b' with
        | nil =>
          repeat' (first | refine len_sl (es := ([] : List Run).map encR) rfl rfl ?_ | refine w_seq ?_ | refine w_ops ?_ | refine st_nil ?_ | refine th_n ?_ | refine bk_x ?_ | refine w_skip ?_ | refine w_ret ?_ | refine w_false rfl ?_ | refine mv_c rfl ?_ | refine mv_osl rfl ?_ | refine gtr_ rfl rfl ?_)
          refine fin_r (rv_own rfl rfl rfl (rv_t rfl rv_nil)) ?_
          simp [one_, minus, ga, gb, hm, encL, encE]
        | cons q b' =>
          have hp : 0 < (q :: b').length := by simp
          repeat' (first | refine w_seq ?_ | refine w_ops ?_ | refine st_nil ?_ | refine th_n ?_ | refine th_r ?_ | refine bk_x ?_ | refine w_ret ?_ | refine w_true rfl ?_ | refine mv_c rfl ?_ | refine gtr_t rfl rfl (by omega) ?_ | refine len_sl rfl (by first | assumption | exact List.length_map _) ?_)
          refine fin_r rfl ?_
          simp [one_, minus, hm, encL]
      · intro s' hm t4 t5
        rw [← put_same t4, ← put_same t5]
        repeat' (first | refine th_r ?_ | refine bk_r ?_)
        refine fin_r rfl ?_
        simp [one_, minus, hm, encL]
end Go.Proofs.Ytcmejdkjfekoeaa
namespace Go.Proofs.Ytcmejdkjfekoeaa
open Go.Pl Go.Bag
set_option maxHeartbeats 4000000
theorem has_loop {C : CallP} {K : Ex → PS → Prop} (l : List Run) (v : Int) (hlen : l.length < 4611686018427387904) : ∀ (rest : List Run) (i : Nat) (s : PS), l.drop i = rest → i ≤ l.length →
    s.t 1 = .c (.int .i64 v) → s.t 10 = .c (encL l) → s.t 11 = .c (.int .i64 l.length) → s.t 12 = .c (.int .i64 i) →
    ((∀ r ∈ rest, r.1 ≠ v) → ∀ s', K (.x 0) s') → (∀ s' r, rest.find? (fun r => r.1 == v) = some r → s'.t 4 = .c (.int .i64 r.2) → K .r s') → wP C (.loop b30_0) s K := by
  intro rest
  induction rest with
  | nil =>
    intro i s hd hi t1 t10 t11 t12 hx hr
    refine w_loop ?_
    have := get_end hd hi
    subst this
    rw [← put_same t11, ← put_same t12]
    unfold b30_0 r30_4 r30_5 r30_6 r30_7 r30_8
    repeat' (first | refine w_seq ?_ | refine w_ops ?_ | refine st_nil ?_ | refine th_n ?_ | refine th_x ?_ | refine w_exit ?_ | refine w_false rfl ?_ | refine lss_f rfl rfl (by omega) ?_)
    exact hx (by simp) _
  | cons r rest ih =>
    intro i s hd hi t1 t10 t11 t12 hx hr
    refine w_loop ?_
    have he := get_enc hd
    have hl := get_len hd
    have hn := get_next hd
    rw [← put_same t1, ← put_same t10, ← put_same t11, ← put_same t12]
    unfold b30_0 r30_4 r30_5 r30_6 r30_7 r30_8
    repeat' (first | refine w_seq ?_ | refine w_ops ?_ | refine st_nil ?_ | refine th_n ?_ | refine th_r ?_ | refine bk_n ?_ | refine bk_r ?_ | refine w_block ?_ | refine w_skip ?_ | refine w_ret ?_ | refine w_true rfl ?_ | refine w_condd rfl (fun hc => ?_) (fun hc => ?_) | refine mv_c rfl ?_ | refine lss_t rfl rfl (by omega) ?_ | refine eqd_ rfl rfl ?_ | refine add_in rfl rfl (by omega) ?_ | refine alloc_ (fun u => ?_) | refine load_rp rfl (Nat.le_of_ble_eq_true rfl) rfl ?_ | refine load_ptr rfl (by decide) rfl (Nat.le_of_ble_eq_true rfl) rfl ?_ | refine store_ptr rfl rfl (by decide) rfl rfl (Nat.le_of_ble_eq_true rfl) rfl ?_ | refine fad_ptr rfl rfl rfl ?_ | refine iaS_c rfl rfl (by omega) (by assumption) rfl ?_)
    · exact hr _ r (by simp [List.find?, hc]) rfl
    · refine ih (i + 1) _ hn (by omega) rfl rfl rfl rfl (fun h => hx (fun q hq => ?_)) (fun s' q hq h => hr s' q ?_ h)
      · rcases List.mem_cons.mp hq with rfl | hq
        · exact hc
        · exact h q hq
      · have : (r.1 == v) = false := by simpa using hc
        simp [List.find?, this, hq]
theorem C_Has (l : List Run) (v : Int) (hlen : l.length < 4611686018427387904) : PCallG Try.prog 30 [.c (encL l), .c (.int .i64 v)] (.c (.int .i64 (if good l then has l v else 0))) [] := by
  refine pcallF Try.func30 c30 rfl ?_
  unfold p30 r30_0 r30_1 r30_2 r30_3 r30_9
  by_cases hg : good l = true
  · have hC := C_good l hlen
    rw [hg] at hC
    repeat' (first | refine call1 rfl hC ?_ | refine w_seq ?_ | refine w_ops ?_ | refine st_nil ?_ | refine th_n ?_ | refine w_block ?_ | refine w_skip ?_ | refine w_false rfl ?_ | refine mv_c rfl ?_ | refine not_ rfl ?_ | refine len_sl rfl (by first | assumption | exact List.length_map _) ?_)
    refine has_loop l v hlen l 0 _ rfl (by omega) rfl rfl rfl rfl (fun h s' => ?_) (fun s' r h h4 => ?_)
    · repeat' (first | refine w_seq ?_ | refine w_ops ?_ | refine st_nil ?_ | refine th_n ?_ | refine bk_x ?_ | refine w_ret ?_ | refine mv_c rfl ?_)
      refine fin_r rfl ?_
      have : l.find? (fun r => r.1 == v) = none := by simpa using h
      simp [one_, hg, has, this]
    · rw [← put_same h4]
      repeat' (first | refine th_r ?_ | refine bk_r ?_)
      exact fin_r rfl (by simp [one_, hg, has, h])
  · simp only [Bool.not_eq_true] at hg
    have hC := C_good l hlen
    rw [hg] at hC
    repeat' (first | refine call1 rfl hC ?_ | refine w_seq ?_ | refine w_ops ?_ | refine st_nil ?_ | refine th_n ?_ | refine th_r ?_ | refine w_ret ?_ | refine w_true rfl ?_ | refine mv_c rfl ?_ | refine not_ rfl ?_)
    exact fin_r rfl (by simp [one_, hg])
def tup2 (p : Int × Bool) : CV := .tup [.int .i64 p.1, .bool p.2]
end Go.Proofs.Ytcmejdkjfekoeaa
namespace Go.Proofs.Ytcmejdkjfekoeaa
open Go.Pl Go.Bag
set_option maxHeartbeats 8000000
end Go.Proofs.Ytcmejdkjfekoeaa
namespace Go.Proofs.Ytcmejdkjfekoeaa
open Go.Pl Go.Bag
set_option maxHeartbeats 8000000
end Go.Proofs.Ytcmejdkjfekoeaa
namespace Go.Proofs.Ytcmejdkjfekoeaa
open Go.Pl Go.Bag
set_option maxHeartbeats 8000000
def bagV (p : List Run × Bool) : CV := .agg [encL p.1, .bool p.2]
theorem rjoin_loop {K : Ex → PS → Prop} (b : List Run) (hlen : b.length < 1000000) (v4 : Nat) (c4 : List CV) : ∀ (rest : List Run) (i : Nat) (out : List Run) (s : PS), b.drop i = rest → i ≤ b.length → asc out → pos out → out.length ≤ 1000000 + i → pos rest → sum out + sum rest ≤ 1099511627776 →
    s.t 1 = .c (encL b) → s.t 5 = .c (encL out) → s.t 6 = .c (.int .i64 i) → s.t 4 = .ptr 4 v4 0 → s.bx 4 = ⟨v4, .var c4⟩ →
    (∀ s', s'.t 5 = .c (encL (layS out rest)) → s'.t 4 = .ptr 4 v4 0 → s'.bx 4 = ⟨v4, .var c4⟩ → K (.x 0) s') → wP (PCallG Try.prog) (.loop b39_0) s K := by
  intro rest
  induction rest with
  | nil =>
    intro i out s hd hi ha hp hl hr hs t1 t5 t6 t4 b4 hx
    refine w_loop ?_
    have hi' := get_end hd hi
    subst hi'
    rw [← put_same t1, ← put_same t5, ← put_same t6, ← put_same t4, ← box_same b4]
    unfold b39_0 r39_5 r39_6 r39_7
    repeat' (first | refine len_sl rfl (List.length_map _) ?_ | refine w_seq ?_ | refine w_ops ?_ | refine st_nil ?_ | refine th_n ?_ | refine th_x ?_ | refine w_exit ?_ | refine w_false rfl ?_ | refine mv_c rfl ?_ | refine lss_f rfl rfl (by omega) ?_)
    exact hx _ rfl rfl rfl
  | cons r rest ih =>
    intro i out s hd hi ha hp hl hr hs t1 t5 t6 t4 b4 hx
    refine w_loop ?_
    have he := get_enc hd
    have hil := get_len hd
    have hn := get_next hd
    have hr1 := hr r (by simp)
    have hr2 : pos rest := fun q hq => hr q (by simp [hq])
    have hs0 := sum_nonneg hr2
    have hs1 := sum_nonneg hp
    simp only [sum] at hs
    have hM := C_Lay out r.1 r.2 (by omega) fun q hq => by have := le_sum hp q hq; omega
    obtain ⟨f1, f2, f3, f4, f5⟩ := lay_facts out r.1 r.2
    obtain ⟨g1, g2⟩ := lay_pos (v := r.1) (n := r.2) ha hp (by omega) (by have := cnt_nonneg r.1 hp; omega)
    rw [← put_same t1, ← put_same t5, ← put_same t6, ← put_same t4, ← box_same b4]
    unfold b39_0 r39_5 r39_6 r39_7
    repeat' (first | refine len_sl rfl (List.length_map _) ?_ | refine call3 rfl rfl rfl hM ?_ | refine w_seq ?_ | refine w_ops ?_ | refine w_opsD0 rfl ?_ | refine st_nil ?_ | refine th_n ?_ | refine bk_n ?_ | refine w_block ?_ | refine w_skip ?_ | refine w_true rfl ?_ | refine mv_c rfl ?_ | refine lss_t rfl rfl (by omega) ?_ | refine add_in rfl rfl (by omega) ?_ | refine load_rp rfl (Nat.le_of_ble_eq_true rfl) rfl ?_ | refine fad_rp rfl (Nat.le_of_ble_eq_true rfl) rfl ?_ | refine iaS_c rfl rfl (by omega) (by assumption) rfl ?_)
    exact ih (i + 1) (lay out r.1 r.2) _ hn (by omega) g1 g2 (by omega) hr2 (by omega) (by rfl) (by rfl) (by rfl) (by rfl) (by rfl) hx
theorem C_rJoin (a b : List Run) (ha : a.length ≤ 1000000) (hb : b.length < 1000000) : PCallG Try.prog 39 [.c (encL a), .c (encL b)] (.c (bagV (join a b))) [] := by
  refine pcallF Try.func39 c39 rfl ?_
  have h0 : cap = 1099511627776 := rfl
  have c1 := C_rGood a (by omega)
  have c2 := C_rGood b (by omega)
  have c3 := C_rCount a (by omega)
  have c4 := C_rCount b (by omega)
  unfold p39 r39_0 r39_1 r39_2 r39_3 r39_4 r39_8
  cases ga : good a with
  | false =>
    rw [ga] at c1
    rw [join_no (by simp [ga])]
    repeat' (first | refine call1 rfl c1 ?_ | refine w_seq ?_ | refine w_ops ?_ | refine st_nil ?_ | refine th_n ?_ | refine th_r ?_ | refine w_ret ?_ | refine w_true rfl ?_ | refine g_no rfl ?_ | refine mv_c rfl ?_ | refine pick_t rfl rfl ?_ | refine not_ rfl ?_ | refine alloc_ (fun u => ?_) | refine build_ rfl rfl ?_ | refine store_ptr rfl rfl (by decide) rfl rfl (Nat.le_of_ble_eq_true rfl) rfl ?_)
    exact fin_r (rv_cell rfl rfl rfl rfl rv_nil) rfl
  | true =>
    cases gb : good b with
    | false =>
      rw [ga] at c1
      rw [gb] at c2
      rw [join_no (by simp [gb])]
      repeat' (first | refine call1 rfl c1 ?_ | refine call1 rfl c2 ?_ | refine w_seq ?_ | refine w_ops ?_ | refine st_nil ?_ | refine th_n ?_ | refine th_r ?_ | refine w_ret ?_ | refine w_true rfl ?_ | refine g_yes rfl ?_ | refine g_no rfl ?_ | refine mv_c rfl ?_ | refine pick_t rfl rfl ?_ | refine pick_f rfl rfl ?_ | refine not_ rfl ?_ | refine alloc_ (fun u => ?_) | refine build_ rfl rfl ?_ | refine store_ptr rfl rfl (by decide) rfl rfl (Nat.le_of_ble_eq_true rfl) rfl ?_)
      exact fin_r (rv_cell rfl rfl rfl rfl rv_nil) rfl
    | true =>
      rw [ga] at c1 c3
      rw [gb] at c2 c4
      rw [if_pos rfl] at c3 c4
      obtain ⟨a1, a2, a3⟩ := good_iff.mp ga
      obtain ⟨b1, b2, b3⟩ := good_iff.mp gb
      have na := sum_nonneg a2
      have nb := sum_nonneg b2
      by_cases hs : sum a + sum b ≤ 1099511627776
      · rw [layS_join ga gb (by omega)]
        repeat' (first | refine call1 rfl c1 ?_ | refine call1 rfl c2 ?_ | refine call1 rfl c3 ?_ | refine call1 rfl c4 ?_ | refine w_seq ?_ | refine w_ops ?_ | refine st_nil ?_ | refine th_n ?_ | refine w_block ?_ | refine w_skip ?_ | refine w_false rfl ?_ | refine g_yes rfl ?_ | refine mv_c rfl ?_ | refine pick_f rfl rfl ?_ | refine gtr_f rfl rfl (by omega) ?_ | refine not_ rfl ?_ | refine add_in rfl rfl (by omega) ?_ | refine alloc_ (fun u => ?_))
        refine rjoin_loop b hb _ _ b 0 a _ rfl (by omega) a1 a2 (by omega) b2 hs (by rfl) (by rfl) (by rfl) (by rfl) (by rfl) ?_
        intro s' u5 u4 w4
        rw [← put_same u5, ← put_same u4, ← box_same w4]
        repeat' (first | refine w_seq ?_ | refine w_ops ?_ | refine st_nil ?_ | refine th_n ?_ | refine bk_x ?_ | refine w_ret ?_ | refine mv_c rfl ?_ | refine build_ rfl rfl ?_ | refine store_ptr rfl rfl (by decide) rfl rfl (Nat.le_of_ble_eq_true rfl) rfl ?_)
        exact fin_r (rv_cell rfl rfl rfl rfl rv_nil) rfl
      · rw [join_no (by omega)]
        repeat' (first | refine call1 rfl c1 ?_ | refine call1 rfl c2 ?_ | refine call1 rfl c3 ?_ | refine call1 rfl c4 ?_ | refine w_seq ?_ | refine w_ops ?_ | refine st_nil ?_ | refine th_n ?_ | refine th_r ?_ | refine w_ret ?_ | refine w_true rfl ?_ | refine g_yes rfl ?_ | refine mv_c rfl ?_ | refine pick_f rfl rfl ?_ | refine gtr_t rfl rfl (by omega) ?_ | refine not_ rfl ?_ | refine add_in rfl rfl (by omega) ?_ | refine alloc_ (fun u => ?_) | refine build_ rfl rfl ?_ | refine store_ptr rfl rfl (by decide) rfl rfl (Nat.le_of_ble_eq_true rfl) rfl ?_)
        exact fin_r (rv_cell rfl rfl rfl rfl rv_nil) rfl
theorem rmin_loop {K : Ex → PS → Prop} (a b : List Run) (halen : a.length ≤ 1000000) (hlen : b.length < 1000000) (ga : good a = true) (v4 : Nat) (c4 : List CV) (hc4 : c4.length = 2) : ∀ (rest : List Run) (i : Nat) (out pre : List Run) (s : PS), b.drop i = rest → i ≤ b.length → pre ++ rest = b → asc b → pos b → (∀ r ∈ rest, r.2 ≤ 1099511627776) → asc out → pos out → sum out ≤ 1099511627776 → out.length ≤ 1000000 + i →
    (∀ v, cnt out v = cnt a v - cnt pre v) →
    s.t 0 = .c (encL a) → s.t 1 = .c (encL b) → s.t 5 = .c (encL out) → s.t 6 = .c (.int .i64 i) → s.t 4 = .ptr 4 v4 0 → s.bx 4 = ⟨v4, .var c4⟩ →
    (∀ o s', rminL a out rest = some o → s'.t 5 = .c (encL o) → s'.t 4 = .ptr 4 v4 0 → s'.bx 4 = ⟨v4, .var c4⟩ → K (.x 0) s') →
    (∀ s', rminL a out rest = none → s'.t 4 = .ptr 4 v4 0 → s'.bx 4 = ⟨v4, .var [.sl [], .bool false]⟩ → K .r s') → wP (PCallG Try.prog) (.loop b40_0) s K := by
  obtain ⟨a1, a2, a3⟩ := good_iff.mp ga
  obtain ⟨x, y, rfl⟩ : ∃ x y, c4 = [x, y] := by
    match c4, hc4 with
    | [x, y], _ => exact ⟨x, y, rfl⟩
  intro rest
  induction rest with
  | nil =>
    intro i out pre s hd hi hpr hab hpb hcap ha hp hsu hl hcn t0 t1 t5 t6 t4 b4 hx hr
    refine w_loop ?_
    have hi' := get_end hd hi
    subst hi'
    rw [← put_same t1, ← put_same t5, ← put_same t6, ← put_same t4, ← box_same b4]
    unfold b40_0 r40_5 r40_6 r40_7 r40_8 r40_9
    repeat' (first | refine len_sl rfl (List.length_map _) ?_ | refine w_seq ?_ | refine w_ops ?_ | refine st_nil ?_ | refine th_n ?_ | refine th_x ?_ | refine w_exit ?_ | refine w_false rfl ?_ | refine mv_c rfl ?_ | refine lss_f rfl rfl (by omega) ?_)
    exact hx out _ rfl rfl rfl rfl
  | cons r rest ih =>
    intro i out pre s hd hi hpr hab hpb hcap ha hp hsu hl hcn t0 t1 t5 t6 t4 b4 hx hr
    refine w_loop ?_
    have he := get_enc hd
    have hil := get_len hd
    have hn := get_next hd
    have hr0 : 1 ≤ r.2 := hpb r (by rw [← hpr]; simp)
    have hr1 : r.2 ≤ 1099511627776 := hcap r (by simp)
    have hH : PCallG Try.prog 38 [.c (encL a), .c (.int .i64 r.1)] (.c (.int .i64 (cnt a r.1))) [] := by
      have := C_rHas a r.1 (by omega)
      rw [ga, if_pos rfl, has_cnt r.1 a1] at this
      exact this
    rw [← put_same t0, ← put_same t1, ← put_same t5, ← put_same t6, ← put_same t4, ← box_same b4]
    unfold b40_0 r40_5 r40_6 r40_7 r40_8 r40_9
    by_cases hlt : cnt a r.1 < r.2
    · have e : rminL a out (r :: rest) = none := by simp [rminL, hlt]
      repeat' (first | refine len_sl rfl (List.length_map _) ?_ | refine call2 rfl rfl hH ?_ | refine w_seq ?_ | refine w_ops ?_ | refine w_opsD0 rfl ?_ | refine st_nil ?_ | refine th_n ?_ | refine th_r ?_ | refine bk_r ?_ | refine w_block ?_ | refine w_skip ?_ | refine w_ret ?_ | refine w_true rfl ?_ | refine mv_c rfl ?_ | refine lss_t rfl rfl (by omega) ?_ | refine build_ rfl rfl ?_ | refine load_rp rfl (Nat.le_of_ble_eq_true rfl) rfl ?_ | refine store_ptr rfl rfl (by decide) rfl rfl (Nat.le_of_ble_eq_true rfl) rfl ?_ | refine fad_rp rfl (Nat.le_of_ble_eq_true rfl) rfl ?_ | refine iaS_c rfl rfl (by omega) (by assumption) rfl ?_)
      exact hr _ e rfl rfl
    · have e : rminL a out (r :: rest) = rminL a (lay out r.1 (-r.2)) rest := by simp [rminL, hlt]
      rw [e] at hx hr
      have hM := C_Lay out r.1 (-r.2) (by omega) fun q hq => by have := le_sum hp q hq; omega
      obtain ⟨f1, f2, f3, f4, f5⟩ := lay_facts out r.1 (-r.2)
      have hpre : cnt pre r.1 = 0 := cnt_none fun q hq => by
        rw [← hpr] at hab
        have := (List.pairwise_append.mp hab).2.2 q hq r (by simp)
        omega
      obtain ⟨g1, g2⟩ := lay_pos (v := r.1) (n := -r.2) ha hp (by omega) (by rw [hcn]; omega)
      repeat' (first | refine len_sl rfl (List.length_map _) ?_ | refine call2 rfl rfl hH ?_ | refine call3 rfl rfl rfl hM ?_ | refine w_seq ?_ | refine w_ops ?_ | refine w_opsD0 rfl ?_ | refine st_nil ?_ | refine th_n ?_ | refine bk_n ?_ | refine w_block ?_ | refine w_skip ?_ | refine w_true rfl ?_ | refine w_false rfl ?_ | refine mv_c rfl ?_ | refine lss_t rfl rfl (by omega) ?_ | refine lss_f rfl rfl (by omega) ?_ | refine neg_in rfl (by omega) ?_ | refine add_in rfl rfl (by omega) ?_ | refine load_rp rfl (Nat.le_of_ble_eq_true rfl) rfl ?_ | refine fad_rp rfl (Nat.le_of_ble_eq_true rfl) rfl ?_ | refine iaS_c rfl rfl (by omega) (by assumption) rfl ?_)
      refine ih (i + 1) (lay out r.1 (-r.2)) (pre ++ [r]) _ hn (by omega) (by simpa using hpr) hab hpb (fun q hq => hcap q (by simp [hq])) g1 g2 (by omega) (by omega) (fun v => ?_) (by rfl) (by rfl) (by rfl) (by rfl) (by rfl) (by rfl) hx hr
      rw [f1, hcn, cnt_append]; simp only [cnt]; split <;> omega
theorem C_rMinus (a b : List Run) (ha : a.length ≤ 1000000) (hb : b.length < 1000000) : PCallG Try.prog 40 [.c (encL a), .c (encL b)] (.c (bagV (minus a b))) [] := by
  refine pcallF Try.func40 c40 rfl ?_
  have h0 : cap = 1099511627776 := rfl
  have c1 := C_rGood a (by omega)
  have c2 := C_rGood b (by omega)
  unfold p40 r40_0 r40_1 r40_2 r40_3 r40_4 r40_10
  cases ga : good a with
  | false =>
    rw [ga] at c1
    rw [show minus a b = ([], false) by simp [minus, ga]]
    repeat' (first | refine call1 rfl c1 ?_ | refine w_seq ?_ | refine w_ops ?_ | refine st_nil ?_ | refine th_n ?_ | refine th_r ?_ | refine w_ret ?_ | refine w_true rfl ?_ | refine g_no rfl ?_ | refine mv_c rfl ?_ | refine pick_t rfl rfl ?_ | refine not_ rfl ?_ | refine alloc_ (fun u => ?_) | refine build_ rfl rfl ?_ | refine store_ptr rfl rfl (by decide) rfl rfl (Nat.le_of_ble_eq_true rfl) rfl ?_)
    exact fin_r (rv_cell rfl rfl rfl rfl rv_nil) rfl
  | true =>
    cases gb : good b with
    | false =>
      rw [ga] at c1
      rw [gb] at c2
      rw [show minus a b = ([], false) by simp [minus, gb]]
      repeat' (first | refine call1 rfl c1 ?_ | refine call1 rfl c2 ?_ | refine w_seq ?_ | refine w_ops ?_ | refine st_nil ?_ | refine th_n ?_ | refine th_r ?_ | refine w_ret ?_ | refine w_true rfl ?_ | refine g_yes rfl ?_ | refine mv_c rfl ?_ | refine pick_f rfl rfl ?_ | refine not_ rfl ?_ | refine alloc_ (fun u => ?_) | refine build_ rfl rfl ?_ | refine store_ptr rfl rfl (by decide) rfl rfl (Nat.le_of_ble_eq_true rfl) rfl ?_)
      exact fin_r (rv_cell rfl rfl rfl rfl rv_nil) rfl
    | true =>
      rw [ga] at c1
      rw [gb] at c2
      obtain ⟨a1, a2, a3⟩ := good_iff.mp ga
      obtain ⟨b1, b2, b3⟩ := good_iff.mp gb
      rw [rminL_minus ga gb]
      repeat' (first | refine call1 rfl c1 ?_ | refine call1 rfl c2 ?_ | refine w_seq ?_ | refine w_ops ?_ | refine st_nil ?_ | refine th_n ?_ | refine w_block ?_ | refine w_skip ?_ | refine w_false rfl ?_ | refine g_yes rfl ?_ | refine mv_c rfl ?_ | refine pick_f rfl rfl ?_ | refine not_ rfl ?_ | refine alloc_ (fun u => ?_))
      refine rmin_loop a b ha hb ga _ _ rfl b 0 a [] _ rfl (by omega) rfl b1 b2 (fun q hq => by have := le_sum b2 q hq; omega) a1 a2 (by omega) (by omega) (fun v => by simp [cnt]) (by rfl) (by rfl) (by rfl) (by rfl) (by rfl) (by rfl) ?_ ?_
      · intro o s' ho u5 u4 w4
        rw [← put_same u5, ← put_same u4, ← box_same w4]
        rw [ho]
        repeat' (first | refine w_seq ?_ | refine w_ops ?_ | refine st_nil ?_ | refine th_n ?_ | refine bk_x ?_ | refine w_ret ?_ | refine mv_c rfl ?_ | refine build_ rfl rfl ?_ | refine store_ptr rfl rfl (by decide) rfl rfl (Nat.le_of_ble_eq_true rfl) rfl ?_)
        exact fin_r (rv_cell rfl rfl rfl rfl rv_nil) rfl
      · intro s' ho u4 w4
        rw [← put_same u4, ← box_same w4]
        rw [ho]
        repeat' (first | refine th_r ?_ | refine bk_r ?_)
        exact fin_r (rv_cell rfl rfl rfl rfl rv_nil) rfl
end Go.Proofs.Ytcmejdkjfekoeaa
namespace Go.Proofs.Ytcmejdkjfekoeaa
open Go.Pl Go.Bag
set_option maxHeartbeats 8000000
/-! ### the document's wide numbers: sign, high part, low part -/
def enc3 (w : Bool × Int × Int) : List CV := [.bool w.1, .int .u64 w.2.1, .int .u64 w.2.2]
def in3 (w : Bool × Int × Int) : Prop := (0 ≤ w.2.1 ∧ w.2.1 ≤ 18446744073709551615) ∧ (0 ≤ w.2.2 ∧ w.2.2 ≤ 18446744073709551615)
def less3 (a b : Bool × Int × Int) : Bool := decide (a.2.1 < b.2.1 ∨ (a.2.1 = b.2.1 ∧ a.2.2 < b.2.2))
def sub3 (p q : Bool × Int × Int) : Bool × Int × Int :=
  let hi := if p.2.2 < q.2.2 then ((p.2.1 - q.2.1) % 18446744073709551616 - 1) % 18446744073709551616 else (p.2.1 - q.2.1) % 18446744073709551616
  let lo := (p.2.2 - q.2.2) % 18446744073709551616
  (if hi = 0 ∧ lo = 0 then false else p.1, hi, lo)
def plus3 (a b : Bool × Int × Int) : Bool × Int × Int :=
  if a.1 = b.1 then (a.1, (if (a.2.2 + b.2.2) % 18446744073709551616 < a.2.2 then ((a.2.1 + b.2.1) % 18446744073709551616 + 1) % 18446744073709551616 else (a.2.1 + b.2.1) % 18446744073709551616), (a.2.2 + b.2.2) % 18446744073709551616)
  else if less3 a b then sub3 b a else sub3 a b
def of3 (z : Int) : Bool × Int × Int := (decide (z < 0), absI z / 18446744073709551616, absI z % 18446744073709551616)
theorem enc3_of (z : Int) : enc3 (of3 z) = cellsV z := rfl
theorem in3_sub {p q : Bool × Int × Int} : in3 (sub3 p q) := by
  unfold sub3 in3
  simp only
  refine ⟨?_, by omega⟩
  split <;> omega
theorem in3_plus {a b : Bool × Int × Int} : in3 (plus3 a b) := by
  unfold plus3
  split
  · unfold in3
    simp only
    refine ⟨?_, by omega⟩
    split <;> omega
  · split <;> exact in3_sub
theorem absI_nn (z : Int) : 0 ≤ absI z := by unfold absI; split <;> omega
theorem in3_of {z : Int} (h : absI z < 340282366920938463463374607431768211456) : in3 (of3 z) := by
  have := absI_nn z
  unfold in3 of3; simp only; omega
theorem less3_of {z y : Int} : less3 (of3 z) (of3 y) = decide (absI z < absI y) := by
  have := absI_nn z
  have := absI_nn y
  unfold less3 of3
  simp only
  rw [decide_eq_decide]
  omega
theorem sub3_of {z y : Int} (hs : decide (z < 0) ≠ decide (y < 0)) (hle : absI y ≤ absI z) (hb : absI z < 340282366920938463463374607431768211456) : sub3 (of3 z) (of3 y) = of3 (z + y) := by
  have h1 := absI_nn z
  have h2 := absI_nn y
  have h3 : absI (z + y) = absI z - absI y := by
    unfold absI at *
    by_cases hz : z < 0 <;> by_cases hy : y < 0 <;> by_cases hzy : z + y < 0 <;> simp [hz, hy, hzy] at hs hle ⊢ <;> omega
  have h4 : absI z - absI y ≠ 0 → decide (z < 0) = decide (z + y < 0) := fun hne => by
    rw [decide_eq_decide]
    unfold absI at *
    by_cases hz : z < 0 <;> by_cases hy : y < 0 <;> simp [hz, hy] at hs hle hne ⊢ <;> omega
  have h5 : absI z - absI y = 0 → decide (z + y < 0) = false := fun he => by
    rw [decide_eq_false_iff_not]
    rw [he] at h3
    unfold absI at h3
    split at h3 <;> omega
  unfold sub3 of3
  simp only
  rw [h3]
  generalize absI z = A at *
  generalize absI y = B at *
  have hlo : (A % 18446744073709551616 - B % 18446744073709551616) % 18446744073709551616 = (A - B) % 18446744073709551616 := by omega
  have hhi : (if A % 18446744073709551616 < B % 18446744073709551616 then ((A / 18446744073709551616 - B / 18446744073709551616) % 18446744073709551616 - 1) % 18446744073709551616 else (A / 18446744073709551616 - B / 18446744073709551616) % 18446744073709551616) = (A - B) / 18446744073709551616 := by
    split <;> omega
  rw [hlo, hhi]
  have h6 : ((A - B) / 18446744073709551616 = 0 ∧ (A - B) % 18446744073709551616 = 0) ↔ A - B = 0 := by omega
  by_cases he : A - B = 0
  · rw [if_pos (h6.mpr he), h5 he]
  · rw [if_neg (mt h6.mp he), h4 he]
theorem plus3_of {z y : Int} (hb : absI z + absI y < 340282366920938463463374607431768211456) : plus3 (of3 z) (of3 y) = of3 (z + y) := by
  have h1 := absI_nn z
  have h2 := absI_nn y
  by_cases hs : decide (z < 0) = decide (y < 0)
  · have h3 : absI (z + y) = absI z + absI y := by
      unfold absI at *
      by_cases hz : z < 0 <;> by_cases hy : y < 0 <;> by_cases hzy : z + y < 0 <;> simp [hz, hy, hzy] at hs ⊢ <;> omega
    have h4 : decide (z < 0) = decide (z + y < 0) := by
      by_cases hz : z < 0 <;> by_cases hy : y < 0 <;> simp [hz, hy] at hs ⊢ <;> omega
    unfold plus3 of3
    simp only
    rw [if_pos hs, h3, ← h4]
    generalize absI z = A at *
    generalize absI y = B at *
    have hlo : (A % 18446744073709551616 + B % 18446744073709551616) % 18446744073709551616 = (A + B) % 18446744073709551616 := by omega
    have hhi : (if (A % 18446744073709551616 + B % 18446744073709551616) % 18446744073709551616 < A % 18446744073709551616 then ((A / 18446744073709551616 + B / 18446744073709551616) % 18446744073709551616 + 1) % 18446744073709551616 else (A / 18446744073709551616 + B / 18446744073709551616) % 18446744073709551616) = (A + B) / 18446744073709551616 := by
      split <;> omega
    rw [hhi, hlo]
  · unfold plus3
    rw [if_neg (show ¬ (of3 z).1 = (of3 y).1 from hs), less3_of]
    by_cases hlt : absI z < absI y
    · rw [if_pos (by simpa using hlt), sub3_of (fun h => hs h.symm) (by omega) (by omega), Int.add_comm]
    · rw [if_neg (by simpa using hlt), sub3_of hs (by omega) (by omega)]
theorem C_rLess (a b : Bool × Int × Int) : PCallG Try.prog 129 [.c (.agg (enc3 a)), .c (.agg (enc3 b))] (.c (.bool (less3 a b))) [] := by
  obtain ⟨an, ah, al⟩ := a
  obtain ⟨bn, bh, bl⟩ := b
  refine pcallF Try.func129 c129 rfl ?_
  unfold p129 r129_0 r129_1
  by_cases h1 : ah < bh
  · have e : less3 (an, ah, al) (bn, bh, bl) = true := by simp [less3, h1]
    rw [e]
    repeat' (first | refine w_seq ?_ | refine w_ops ?_ | refine st_nil ?_ | refine th_n ?_ | refine w_ret ?_ | refine g_no rfl ?_ | refine g_un rfl ?_ | refine mv_c rfl ?_ | refine pick_t rfl rfl ?_ | refine lss_t rfl rfl (by omega) ?_ | refine box_ rfl rfl rfl (fun u => ?_) | refine load_ptr rfl (by decide) rfl (Nat.le_of_ble_eq_true rfl) rfl ?_ | refine fad_ptr rfl rfl rfl ?_)
    exact fin_r rfl rfl
  · by_cases h2 : ah = bh
    · by_cases h3 : al < bl
      · have e : less3 (an, ah, al) (bn, bh, bl) = true := by simp [less3, h2, h3]
        rw [e]
        repeat' (first | refine w_seq ?_ | refine w_ops ?_ | refine st_nil ?_ | refine th_n ?_ | refine w_ret ?_ | refine g_yes rfl ?_ | refine mv_c rfl ?_ | refine pick_t rfl rfl ?_ | refine pick_f rfl rfl ?_ | refine lss_t rfl rfl (by omega) ?_ | refine lss_f rfl rfl (by omega) ?_ | refine eql_t rfl rfl (by omega) ?_ | refine box_ rfl rfl rfl (fun u => ?_) | refine load_ptr rfl (by decide) rfl (Nat.le_of_ble_eq_true rfl) rfl ?_ | refine fad_ptr rfl rfl rfl ?_)
        exact fin_r rfl rfl
      · have e : less3 (an, ah, al) (bn, bh, bl) = false := by simp [less3, h2]; omega
        rw [e]
        repeat' (first | refine w_seq ?_ | refine w_ops ?_ | refine st_nil ?_ | refine th_n ?_ | refine w_ret ?_ | refine g_yes rfl ?_ | refine mv_c rfl ?_ | refine pick_t rfl rfl ?_ | refine pick_f rfl rfl ?_ | refine lss_f rfl rfl (by omega) ?_ | refine eql_t rfl rfl (by omega) ?_ | refine box_ rfl rfl rfl (fun u => ?_) | refine load_ptr rfl (by decide) rfl (Nat.le_of_ble_eq_true rfl) rfl ?_ | refine fad_ptr rfl rfl rfl ?_)
        exact fin_r rfl rfl
    · have e : less3 (an, ah, al) (bn, bh, bl) = false := by simp [less3, h2]; omega
      rw [e]
      repeat' (first | refine w_seq ?_ | refine w_ops ?_ | refine st_nil ?_ | refine th_n ?_ | refine w_ret ?_ | refine g_yes rfl ?_ | refine g_no rfl ?_ | refine mv_c rfl ?_ | refine pick_f rfl rfl ?_ | refine lss_f rfl rfl (by omega) ?_ | refine eql_f rfl rfl (by omega) ?_ | refine box_ rfl rfl rfl (fun u => ?_) | refine load_ptr rfl (by decide) rfl (Nat.le_of_ble_eq_true rfl) rfl ?_ | refine fad_ptr rfl rfl rfl ?_)
      exact fin_r rfl rfl
theorem C_rPlus (a b : Bool × Int × Int) : PCallG Try.prog 122 [.c (.agg (enc3 a)), .c (.agg (enc3 b))] (.c (.agg (enc3 (plus3 a b)))) [] := by
  have hL := C_rLess a b
  obtain ⟨an, ah, al⟩ := a
  obtain ⟨bn, bh, bl⟩ := b
  refine pcallF Try.func122 c122 rfl ?_
  unfold p122 r122_0 r122_1 r122_2 r122_3 r122_4 r122_5 r122_6 r122_7 r122_8 r122_9 r122_10 r122_11 r122_12 r122_13
  by_cases hs : an = bn
  · subst hs
    by_cases hc : (al + bl) % 18446744073709551616 < al
    · have e : plus3 (an, ah, al) (an, bh, bl) = (an, ((ah + bh) % 18446744073709551616 + 1) % 18446744073709551616, (al + bl) % 18446744073709551616) := by simp [plus3, hc]
      rw [e]
      repeat' (first | refine eqs_t rfl rfl (show eqC false [LK.b] (CV.bool an) (CV.bool an) = some true by simp [eqC, shEq]) ?_ | refine w_seq ?_ | refine w_ops ?_ | refine st_nil ?_ | refine th_n ?_ | refine th_r ?_ | refine w_ret ?_ | refine w_true rfl ?_ | refine lss_t rfl rfl (by omega) ?_ | refine alloc_ (fun u => ?_) | refine box_ rfl rfl rfl (fun u => ?_) | refine build_ rfl rfl ?_ | refine load_ptr rfl (by decide) rfl (Nat.le_of_ble_eq_true rfl) rfl ?_ | refine store_ptr rfl rfl (by decide) rfl rfl (Nat.le_of_ble_eq_true rfl) rfl ?_ | refine fad_ptr rfl rfl rfl ?_ | refine addu_ rfl rfl ?_)
      exact fin_r (rv_cell rfl rfl rfl rfl rv_nil) rfl
    · have e : plus3 (an, ah, al) (an, bh, bl) = (an, (ah + bh) % 18446744073709551616, (al + bl) % 18446744073709551616) := by simp [plus3, hc]
      rw [e]
      repeat' (first | refine eqs_t rfl rfl (show eqC false [LK.b] (CV.bool an) (CV.bool an) = some true by simp [eqC, shEq]) ?_ | refine w_seq ?_ | refine w_ops ?_ | refine st_nil ?_ | refine th_n ?_ | refine th_r ?_ | refine w_skip ?_ | refine w_ret ?_ | refine w_true rfl ?_ | refine w_false rfl ?_ | refine lss_f rfl rfl (by omega) ?_ | refine alloc_ (fun u => ?_) | refine box_ rfl rfl rfl (fun u => ?_) | refine build_ rfl rfl ?_ | refine load_ptr rfl (by decide) rfl (Nat.le_of_ble_eq_true rfl) rfl ?_ | refine store_ptr rfl rfl (by decide) rfl rfl (Nat.le_of_ble_eq_true rfl) rfl ?_ | refine fad_ptr rfl rfl rfl ?_ | refine addu_ rfl rfl ?_)
      exact fin_r (rv_cell rfl rfl rfl rfl rv_nil) rfl
  · have hne : (an == bn) = false := by simpa using hs
    have hq : eqC false [LK.b] (CV.bool an) (CV.bool bn) = some false := by simp [eqC, shEq, hne]
    cases hl : less3 (an, ah, al) (bn, bh, bl) with
    | true =>
      have e : plus3 (an, ah, al) (bn, bh, bl) = sub3 (bn, bh, bl) (an, ah, al) := by simp [plus3, hs, hl]
      rw [hl] at hL
      rw [e]
      by_cases hb : bl < al
      · by_cases h0 : ((bh - ah) % 18446744073709551616 - 1) % 18446744073709551616 = 0
        · by_cases h1 : (bl - al) % 18446744073709551616 = 0
          · rw [show sub3 (bn, bh, bl) (an, ah, al) = (false, ((bh - ah) % 18446744073709551616 - 1) % 18446744073709551616, (bl - al) % 18446744073709551616) by simp [sub3, hb, h0, h1]]
            repeat' (first | refine call2 rfl rfl hL ?_ | refine eqs_t rfl rfl hq ?_ | refine w_seq ?_ | refine w_ops ?_ | refine st_nil ?_ | refine th_n ?_ | refine w_skip ?_ | refine w_ret ?_ | refine w_true rfl ?_ | refine w_false rfl ?_ | refine g_yes rfl ?_ | refine mv_c rfl ?_ | refine pick_t rfl rfl ?_ | refine lss_t rfl rfl (by omega) ?_ | refine eql_t rfl rfl (by omega) ?_ | refine alloc_ (fun u => ?_) | refine box_ rfl rfl rfl (fun u => ?_) | refine build_ rfl rfl ?_ | refine load_ptr rfl (by decide) rfl (Nat.le_of_ble_eq_true rfl) rfl ?_ | refine store_ptr rfl rfl (by decide) rfl rfl (Nat.le_of_ble_eq_true rfl) rfl ?_ | refine fad_ptr rfl rfl rfl ?_ | refine subu_ rfl rfl ?_)
            exact fin_r (rv_cell rfl rfl rfl rfl rv_nil) rfl
          · rw [show sub3 (bn, bh, bl) (an, ah, al) = (bn, ((bh - ah) % 18446744073709551616 - 1) % 18446744073709551616, (bl - al) % 18446744073709551616) by simp [sub3, hb, h0, h1]]
            repeat' (first | refine call2 rfl rfl hL ?_ | refine eqs_t rfl rfl hq ?_ | refine w_seq ?_ | refine w_ops ?_ | refine st_nil ?_ | refine th_n ?_ | refine w_skip ?_ | refine w_ret ?_ | refine w_true rfl ?_ | refine w_false rfl ?_ | refine g_yes rfl ?_ | refine mv_c rfl ?_ | refine pick_t rfl rfl ?_ | refine lss_t rfl rfl (by omega) ?_ | refine eql_t rfl rfl (by omega) ?_ | refine eql_f rfl rfl (by omega) ?_ | refine alloc_ (fun u => ?_) | refine box_ rfl rfl rfl (fun u => ?_) | refine build_ rfl rfl ?_ | refine load_ptr rfl (by decide) rfl (Nat.le_of_ble_eq_true rfl) rfl ?_ | refine store_ptr rfl rfl (by decide) rfl rfl (Nat.le_of_ble_eq_true rfl) rfl ?_ | refine fad_ptr rfl rfl rfl ?_ | refine subu_ rfl rfl ?_)
            exact fin_r (rv_cell rfl rfl rfl rfl rv_nil) rfl
        · rw [show sub3 (bn, bh, bl) (an, ah, al) = (bn, ((bh - ah) % 18446744073709551616 - 1) % 18446744073709551616, (bl - al) % 18446744073709551616) by unfold sub3; simp only [if_pos hb]; rw [if_neg (fun h => h0 h.1)]]
          repeat' (first | refine call2 rfl rfl hL ?_ | refine eqs_t rfl rfl hq ?_ | refine w_seq ?_ | refine w_ops ?_ | refine st_nil ?_ | refine th_n ?_ | refine w_skip ?_ | refine w_ret ?_ | refine w_true rfl ?_ | refine w_false rfl ?_ | refine g_no rfl ?_ | refine mv_c rfl ?_ | refine pick_f rfl rfl ?_ | refine lss_t rfl rfl (by omega) ?_ | refine eql_f rfl rfl (by omega) ?_ | refine alloc_ (fun u => ?_) | refine box_ rfl rfl rfl (fun u => ?_) | refine build_ rfl rfl ?_ | refine load_ptr rfl (by decide) rfl (Nat.le_of_ble_eq_true rfl) rfl ?_ | refine store_ptr rfl rfl (by decide) rfl rfl (Nat.le_of_ble_eq_true rfl) rfl ?_ | refine fad_ptr rfl rfl rfl ?_ | refine subu_ rfl rfl ?_)
          exact fin_r (rv_cell rfl rfl rfl rfl rv_nil) rfl
      · by_cases h0 : (bh - ah) % 18446744073709551616 = 0
        · by_cases h1 : (bl - al) % 18446744073709551616 = 0
          · rw [show sub3 (bn, bh, bl) (an, ah, al) = (false, (bh - ah) % 18446744073709551616, (bl - al) % 18446744073709551616) by simp [sub3, hb, h0, h1]]
            repeat' (first | refine call2 rfl rfl hL ?_ | refine eqs_t rfl rfl hq ?_ | refine w_seq ?_ | refine w_ops ?_ | refine st_nil ?_ | refine th_n ?_ | refine w_skip ?_ | refine w_ret ?_ | refine w_true rfl ?_ | refine w_false rfl ?_ | refine g_yes rfl ?_ | refine mv_c rfl ?_ | refine pick_t rfl rfl ?_ | refine lss_f rfl rfl (by omega) ?_ | refine eql_t rfl rfl (by omega) ?_ | refine alloc_ (fun u => ?_) | refine box_ rfl rfl rfl (fun u => ?_) | refine build_ rfl rfl ?_ | refine load_ptr rfl (by decide) rfl (Nat.le_of_ble_eq_true rfl) rfl ?_ | refine store_ptr rfl rfl (by decide) rfl rfl (Nat.le_of_ble_eq_true rfl) rfl ?_ | refine fad_ptr rfl rfl rfl ?_ | refine subu_ rfl rfl ?_)
            exact fin_r (rv_cell rfl rfl rfl rfl rv_nil) rfl
          · rw [show sub3 (bn, bh, bl) (an, ah, al) = (bn, (bh - ah) % 18446744073709551616, (bl - al) % 18446744073709551616) by simp [sub3, hb, h0, h1]]
            repeat' (first | refine call2 rfl rfl hL ?_ | refine eqs_t rfl rfl hq ?_ | refine w_seq ?_ | refine w_ops ?_ | refine st_nil ?_ | refine th_n ?_ | refine w_skip ?_ | refine w_ret ?_ | refine w_true rfl ?_ | refine w_false rfl ?_ | refine g_yes rfl ?_ | refine mv_c rfl ?_ | refine pick_t rfl rfl ?_ | refine lss_f rfl rfl (by omega) ?_ | refine eql_t rfl rfl (by omega) ?_ | refine eql_f rfl rfl (by omega) ?_ | refine alloc_ (fun u => ?_) | refine box_ rfl rfl rfl (fun u => ?_) | refine build_ rfl rfl ?_ | refine load_ptr rfl (by decide) rfl (Nat.le_of_ble_eq_true rfl) rfl ?_ | refine store_ptr rfl rfl (by decide) rfl rfl (Nat.le_of_ble_eq_true rfl) rfl ?_ | refine fad_ptr rfl rfl rfl ?_ | refine subu_ rfl rfl ?_)
            exact fin_r (rv_cell rfl rfl rfl rfl rv_nil) rfl
        · rw [show sub3 (bn, bh, bl) (an, ah, al) = (bn, (bh - ah) % 18446744073709551616, (bl - al) % 18446744073709551616) by simp [sub3, hb, h0]]
          repeat' (first | refine call2 rfl rfl hL ?_ | refine eqs_t rfl rfl hq ?_ | refine w_seq ?_ | refine w_ops ?_ | refine st_nil ?_ | refine th_n ?_ | refine w_skip ?_ | refine w_ret ?_ | refine w_true rfl ?_ | refine w_false rfl ?_ | refine g_no rfl ?_ | refine mv_c rfl ?_ | refine pick_f rfl rfl ?_ | refine lss_f rfl rfl (by omega) ?_ | refine eql_f rfl rfl (by omega) ?_ | refine alloc_ (fun u => ?_) | refine box_ rfl rfl rfl (fun u => ?_) | refine build_ rfl rfl ?_ | refine load_ptr rfl (by decide) rfl (Nat.le_of_ble_eq_true rfl) rfl ?_ | refine store_ptr rfl rfl (by decide) rfl rfl (Nat.le_of_ble_eq_true rfl) rfl ?_ | refine fad_ptr rfl rfl rfl ?_ | refine subu_ rfl rfl ?_)
          exact fin_r (rv_cell rfl rfl rfl rfl rv_nil) rfl
    | false =>
      have e : plus3 (an, ah, al) (bn, bh, bl) = sub3 (an, ah, al) (bn, bh, bl) := by simp [plus3, hs, hl]
      rw [hl] at hL
      rw [e]
      by_cases hb : al < bl
      · by_cases h0 : ((ah - bh) % 18446744073709551616 - 1) % 18446744073709551616 = 0
        · by_cases h1 : (al - bl) % 18446744073709551616 = 0
          · rw [show sub3 (an, ah, al) (bn, bh, bl) = (false, ((ah - bh) % 18446744073709551616 - 1) % 18446744073709551616, (al - bl) % 18446744073709551616) by simp [sub3, hb, h0, h1]]
            repeat' (first | refine call2 rfl rfl hL ?_ | refine eqs_t rfl rfl hq ?_ | refine w_seq ?_ | refine w_ops ?_ | refine st_nil ?_ | refine th_n ?_ | refine w_skip ?_ | refine w_ret ?_ | refine w_true rfl ?_ | refine w_false rfl ?_ | refine g_yes rfl ?_ | refine mv_c rfl ?_ | refine pick_t rfl rfl ?_ | refine lss_t rfl rfl (by omega) ?_ | refine eql_t rfl rfl (by omega) ?_ | refine alloc_ (fun u => ?_) | refine box_ rfl rfl rfl (fun u => ?_) | refine build_ rfl rfl ?_ | refine load_ptr rfl (by decide) rfl (Nat.le_of_ble_eq_true rfl) rfl ?_ | refine store_ptr rfl rfl (by decide) rfl rfl (Nat.le_of_ble_eq_true rfl) rfl ?_ | refine fad_ptr rfl rfl rfl ?_ | refine subu_ rfl rfl ?_)
            exact fin_r (rv_cell rfl rfl rfl rfl rv_nil) rfl
          · rw [show sub3 (an, ah, al) (bn, bh, bl) = (an, ((ah - bh) % 18446744073709551616 - 1) % 18446744073709551616, (al - bl) % 18446744073709551616) by simp [sub3, hb, h0, h1]]
            repeat' (first | refine call2 rfl rfl hL ?_ | refine eqs_t rfl rfl hq ?_ | refine w_seq ?_ | refine w_ops ?_ | refine st_nil ?_ | refine th_n ?_ | refine w_skip ?_ | refine w_ret ?_ | refine w_true rfl ?_ | refine w_false rfl ?_ | refine g_yes rfl ?_ | refine mv_c rfl ?_ | refine pick_t rfl rfl ?_ | refine lss_t rfl rfl (by omega) ?_ | refine eql_t rfl rfl (by omega) ?_ | refine eql_f rfl rfl (by omega) ?_ | refine alloc_ (fun u => ?_) | refine box_ rfl rfl rfl (fun u => ?_) | refine build_ rfl rfl ?_ | refine load_ptr rfl (by decide) rfl (Nat.le_of_ble_eq_true rfl) rfl ?_ | refine store_ptr rfl rfl (by decide) rfl rfl (Nat.le_of_ble_eq_true rfl) rfl ?_ | refine fad_ptr rfl rfl rfl ?_ | refine subu_ rfl rfl ?_)
            exact fin_r (rv_cell rfl rfl rfl rfl rv_nil) rfl
        · rw [show sub3 (an, ah, al) (bn, bh, bl) = (an, ((ah - bh) % 18446744073709551616 - 1) % 18446744073709551616, (al - bl) % 18446744073709551616) by unfold sub3; simp only [if_pos hb]; rw [if_neg (fun h => h0 h.1)]]
          repeat' (first | refine call2 rfl rfl hL ?_ | refine eqs_t rfl rfl hq ?_ | refine w_seq ?_ | refine w_ops ?_ | refine st_nil ?_ | refine th_n ?_ | refine w_skip ?_ | refine w_ret ?_ | refine w_true rfl ?_ | refine w_false rfl ?_ | refine g_no rfl ?_ | refine mv_c rfl ?_ | refine pick_f rfl rfl ?_ | refine lss_t rfl rfl (by omega) ?_ | refine eql_f rfl rfl (by omega) ?_ | refine alloc_ (fun u => ?_) | refine box_ rfl rfl rfl (fun u => ?_) | refine build_ rfl rfl ?_ | refine load_ptr rfl (by decide) rfl (Nat.le_of_ble_eq_true rfl) rfl ?_ | refine store_ptr rfl rfl (by decide) rfl rfl (Nat.le_of_ble_eq_true rfl) rfl ?_ | refine fad_ptr rfl rfl rfl ?_ | refine subu_ rfl rfl ?_)
          exact fin_r (rv_cell rfl rfl rfl rfl rv_nil) rfl
      · by_cases h0 : (ah - bh) % 18446744073709551616 = 0
        · by_cases h1 : (al - bl) % 18446744073709551616 = 0
          · rw [show sub3 (an, ah, al) (bn, bh, bl) = (false, (ah - bh) % 18446744073709551616, (al - bl) % 18446744073709551616) by simp [sub3, hb, h0, h1]]
            repeat' (first | refine call2 rfl rfl hL ?_ | refine eqs_t rfl rfl hq ?_ | refine w_seq ?_ | refine w_ops ?_ | refine st_nil ?_ | refine th_n ?_ | refine w_skip ?_ | refine w_ret ?_ | refine w_true rfl ?_ | refine w_false rfl ?_ | refine g_yes rfl ?_ | refine mv_c rfl ?_ | refine pick_t rfl rfl ?_ | refine lss_f rfl rfl (by omega) ?_ | refine eql_t rfl rfl (by omega) ?_ | refine alloc_ (fun u => ?_) | refine box_ rfl rfl rfl (fun u => ?_) | refine build_ rfl rfl ?_ | refine load_ptr rfl (by decide) rfl (Nat.le_of_ble_eq_true rfl) rfl ?_ | refine store_ptr rfl rfl (by decide) rfl rfl (Nat.le_of_ble_eq_true rfl) rfl ?_ | refine fad_ptr rfl rfl rfl ?_ | refine subu_ rfl rfl ?_)
            exact fin_r (rv_cell rfl rfl rfl rfl rv_nil) rfl
          · rw [show sub3 (an, ah, al) (bn, bh, bl) = (an, (ah - bh) % 18446744073709551616, (al - bl) % 18446744073709551616) by simp [sub3, hb, h0, h1]]
            repeat' (first | refine call2 rfl rfl hL ?_ | refine eqs_t rfl rfl hq ?_ | refine w_seq ?_ | refine w_ops ?_ | refine st_nil ?_ | refine th_n ?_ | refine w_skip ?_ | refine w_ret ?_ | refine w_false rfl ?_ | refine g_yes rfl ?_ | refine mv_c rfl ?_ | refine pick_t rfl rfl ?_ | refine lss_f rfl rfl (by omega) ?_ | refine eql_t rfl rfl (by omega) ?_ | refine eql_f rfl rfl (by omega) ?_ | refine alloc_ (fun u => ?_) | refine box_ rfl rfl rfl (fun u => ?_) | refine build_ rfl rfl ?_ | refine load_ptr rfl (by decide) rfl (Nat.le_of_ble_eq_true rfl) rfl ?_ | refine store_ptr rfl rfl (by decide) rfl rfl (Nat.le_of_ble_eq_true rfl) rfl ?_ | refine fad_ptr rfl rfl rfl ?_ | refine subu_ rfl rfl ?_)
            exact fin_r (rv_cell rfl rfl rfl rfl rv_nil) rfl
        · rw [show sub3 (an, ah, al) (bn, bh, bl) = (an, (ah - bh) % 18446744073709551616, (al - bl) % 18446744073709551616) by simp [sub3, hb, h0]]
          repeat' (first | refine call2 rfl rfl hL ?_ | refine eqs_t rfl rfl hq ?_ | refine w_seq ?_ | refine w_ops ?_ | refine st_nil ?_ | refine th_n ?_ | refine w_skip ?_ | refine w_ret ?_ | refine w_false rfl ?_ | refine g_no rfl ?_ | refine mv_c rfl ?_ | refine pick_f rfl rfl ?_ | refine lss_f rfl rfl (by omega) ?_ | refine eql_f rfl rfl (by omega) ?_ | refine alloc_ (fun u => ?_) | refine box_ rfl rfl rfl (fun u => ?_) | refine build_ rfl rfl ?_ | refine load_ptr rfl (by decide) rfl (Nat.le_of_ble_eq_true rfl) rfl ?_ | refine store_ptr rfl rfl (by decide) rfl rfl (Nat.le_of_ble_eq_true rfl) rfl ?_ | refine fad_ptr rfl rfl rfl ?_ | refine subu_ rfl rfl ?_)
          exact fin_r (rv_cell rfl rfl rfl rfl rv_nil) rfl
end Go.Proofs.Ytcmejdkjfekoeaa
namespace Go.Proofs.Ytcmejdkjfekoeaa
open Go.Pl Go.Bag
set_option maxHeartbeats 8000000
def back3 (w : Bool × Int × Int) : Int × Bool :=
  if w.2.1 ≠ 0 ∨ 9223372036854775808 < w.2.2 ∨ (w.2.2 = 9223372036854775808 ∧ w.1 = false) then (0, false)
  else if w.2.2 = 9223372036854775808 then (-9223372036854775808, true) else if w.1 then (-w.2.2, true) else (w.2.2, true)
theorem back3_of (z : Int) : back3 (of3 z) = if I64 z then (z, true) else (0, false) := by
  have h1 := absI_nn z
  unfold back3 of3
  simp only
  unfold absI at *
  by_cases hz : z < 0
  · simp only [hz, if_true, decide_true] at *
    split
    · rename_i h; rw [if_neg (show ¬ I64 z by unfold I64; simp at h; omega)]
    · rename_i h; simp at h; split
      · rw [if_pos (show I64 z by unfold I64; omega)]; congr 1; omega
      · rw [if_pos (show I64 z by unfold I64; omega)]; congr 1; omega
  · simp only [hz, if_false, decide_false] at *
    split
    · rename_i h; rw [if_neg (show ¬ I64 z by unfold I64; simp at h; omega)]
    · rename_i h; simp at h; split
      · rename_i h2; exfalso; omega
      · rw [if_pos (show I64 z by unfold I64; omega)]
        simp
        omega
theorem C_rBack (w : Bool × Int × Int) (hw : in3 w) : PCallG Try.prog 91 [.c (.agg (enc3 w))] (.c (tupI (back3 w))) [] := by
  obtain ⟨n, h, l⟩ := w
  obtain ⟨⟨h1, h2⟩, h3, h4⟩ := hw
  simp only at h1 h2 h3 h4
  show PCallG _ 91 [.c (.agg [.bool n, .int .u64 h, .int .u64 l])] _ _
  refine pcallF Try.func91 c91 rfl ?_
  unfold p91 r91_0 r91_1 r91_2 r91_3 r91_4 r91_5 r91_6 r91_7
  by_cases hh : h = 0
  · by_cases hl : 9223372036854775808 < l
    · have e : back3 (n, h, l) = (0, false) := by simp [back3, hl]
      rw [e]
      repeat' (first | refine w_seq ?_ | refine w_ops ?_ | refine st_nil ?_ | refine th_n ?_ | refine th_r ?_ | refine bk_r ?_ | refine w_block ?_ | refine w_ret ?_ | refine w_true rfl ?_ | refine g_yes rfl ?_ | refine g_no rfl ?_ | refine g_un rfl ?_ | refine mv_c rfl ?_ | refine pick_t rfl rfl ?_ | refine pick_f rfl rfl ?_ | refine gtr_t rfl rfl (by omega) ?_ | refine neq_f rfl rfl (by omega) ?_ | refine box_ rfl rfl rfl (fun u => ?_) | refine load_ptr rfl (by decide) rfl (Nat.le_of_ble_eq_true rfl) rfl ?_ | refine fad_ptr rfl rfl rfl ?_)
      exact fin_r rfl rfl
    · by_cases hq : l = 9223372036854775808
      · cases n with
        | false =>
          have e : back3 (false, h, l) = (0, false) := by simp [back3, hq]
          rw [e]
          repeat' (first | refine w_seq ?_ | refine w_ops ?_ | refine st_nil ?_ | refine th_n ?_ | refine th_r ?_ | refine bk_r ?_ | refine w_block ?_ | refine w_ret ?_ | refine w_true rfl ?_ | refine g_yes rfl ?_ | refine mv_c rfl ?_ | refine pick_t rfl rfl ?_ | refine pick_f rfl rfl ?_ | refine gtr_f rfl rfl (by omega) ?_ | refine eql_t rfl rfl (by omega) ?_ | refine neq_f rfl rfl (by omega) ?_ | refine not_ rfl ?_ | refine box_ rfl rfl rfl (fun u => ?_) | refine load_ptr rfl (by decide) rfl (Nat.le_of_ble_eq_true rfl) rfl ?_ | refine fad_ptr rfl rfl rfl ?_)
          exact fin_r rfl rfl
        | true =>
          have e : back3 (true, h, l) = (-9223372036854775808, true) := by simp [back3, hq, hh]
          rw [e]
          repeat' (first | refine w_seq ?_ | refine w_ops ?_ | refine st_nil ?_ | refine th_n ?_ | refine th_r ?_ | refine bk_r ?_ | refine w_block ?_ | refine w_ret ?_ | refine w_true rfl ?_ | refine w_false rfl ?_ | refine g_yes rfl ?_ | refine mv_c rfl ?_ | refine pick_t rfl rfl ?_ | refine pick_f rfl rfl ?_ | refine gtr_f rfl rfl (by omega) ?_ | refine eql_t rfl rfl (by omega) ?_ | refine neq_f rfl rfl (by omega) ?_ | refine not_ rfl ?_ | refine box_ rfl rfl rfl (fun u => ?_) | refine load_ptr rfl (by decide) rfl (Nat.le_of_ble_eq_true rfl) rfl ?_ | refine fad_ptr rfl rfl rfl ?_)
          exact fin_r rfl rfl
      · cases n with
        | false =>
          have e : back3 (false, h, l) = (l, true) := by simp [back3, hq, hh]; omega
          rw [e]
          repeat' (first | refine w_seq ?_ | refine w_ops ?_ | refine st_nil ?_ | refine th_n ?_ | refine bk_n ?_ | refine w_block ?_ | refine w_skip ?_ | refine w_ret ?_ | refine w_false rfl ?_ | refine g_yes rfl ?_ | refine g_no rfl ?_ | refine mv_c rfl ?_ | refine pick_f rfl rfl ?_ | refine gtr_f rfl rfl (by omega) ?_ | refine eql_f rfl rfl (by omega) ?_ | refine neq_f rfl rfl (by omega) ?_ | refine conv_in rfl (wrap64_in (by omega)) ?_ | refine box_ rfl rfl rfl (fun u => ?_) | refine load_ptr rfl (by decide) rfl (Nat.le_of_ble_eq_true rfl) rfl ?_ | refine fad_ptr rfl rfl rfl ?_)
          exact fin_r rfl rfl
        | true =>
          have e : back3 (true, h, l) = (-l, true) := by simp [back3, hq, hh]; omega
          rw [e]
          repeat' (first | refine w_seq ?_ | refine w_ops ?_ | refine st_nil ?_ | refine th_n ?_ | refine th_r ?_ | refine bk_r ?_ | refine w_block ?_ | refine w_ret ?_ | refine w_true rfl ?_ | refine w_false rfl ?_ | refine g_yes rfl ?_ | refine g_no rfl ?_ | refine mv_c rfl ?_ | refine pick_f rfl rfl ?_ | refine gtr_f rfl rfl (by omega) ?_ | refine eql_f rfl rfl (by omega) ?_ | refine neq_f rfl rfl (by omega) ?_ | refine conv_in rfl (wrap64_in (by omega)) ?_ | refine neg_in rfl (by omega) ?_ | refine box_ rfl rfl rfl (fun u => ?_) | refine load_ptr rfl (by decide) rfl (Nat.le_of_ble_eq_true rfl) rfl ?_ | refine fad_ptr rfl rfl rfl ?_)
          exact fin_r rfl rfl
  · have e : back3 (n, h, l) = (0, false) := by simp [back3, hh]
    rw [e]
    repeat' (first | refine w_seq ?_ | refine w_ops ?_ | refine st_nil ?_ | refine th_n ?_ | refine th_r ?_ | refine bk_r ?_ | refine w_block ?_ | refine w_ret ?_ | refine w_true rfl ?_ | refine g_no rfl ?_ | refine g_un rfl ?_ | refine mv_c rfl ?_ | refine pick_t rfl rfl ?_ | refine neq_t rfl rfl (by omega) ?_ | refine box_ rfl rfl rfl (fun u => ?_) | refine load_ptr rfl (by decide) rfl (Nat.le_of_ble_eq_true rfl) rfl ?_ | refine fad_ptr rfl rfl rfl ?_)
    exact fin_r rfl rfl
def wideS : Bool × Int × Int → List Run → Bool × Int × Int
  | w, [] => w
  | w, r :: l => wideS (plus3 w (of3 (r.1 * r.2))) l
theorem wideS_in : ∀ (l : List Run) (w : Bool × Int × Int), in3 w → in3 (wideS w l)
  | [], _, h => h
  | r :: l, _, _ => wideS_in l _ in3_plus
theorem wideS_of : ∀ (l : List Run) (z : Int), pos l → ranged l → absI z + 9223372036854775808 * sum l < 340282366920938463463374607431768211456 → wideS (of3 z) l = of3 (z + wsum l)
  | [], z, _, _, _ => by simp [wideS, wsum]
  | r :: l, z, hp, hr, hb => by
    have h1 := hp r (by simp)
    have hp' : pos l := fun q hq => hp q (by simp [hq])
    have h2 := sum_nonneg hp'
    have h3 := mul_bound (hr r (by simp)).1 (show 0 ≤ r.2 by omega)
    have h4 := absI_nn z
    simp only [sum] at hb
    have h5 : absI (r.1 * r.2) ≤ 9223372036854775808 * r.2 := by
      unfold absI
      split <;> omega
    have h6 : absI (z + r.1 * r.2) ≤ absI z + absI (r.1 * r.2) := by
      unfold absI
      split <;> split <;> split <;> omega
    rw [wideS, plus3_of (by omega), wideS_of l (z + r.1 * r.2) hp' (fun q hq => hr q (by simp [hq])) (by omega)]
    simp only [wsum]
    congr 1
    omega
theorem wide_loop {K : Ex → PS → Prop} (l : List Run) (hlen : l.length < 1000000) (v2 v3 : Nat) (c2 : List CV) : ∀ (rest : List Run) (i : Nat) (w : Bool × Int × Int) (s : PS), l.drop i = rest → i ≤ l.length → ranged rest →
    s.t 0 = .c (encL l) → s.t 4 = .c (.int .i64 i) → s.t 3 = .ptr 3 v3 0 → s.bx 3 = ⟨v3, .var (enc3 w)⟩ → s.t 2 = .ptr 2 v2 0 → s.bx 2 = ⟨v2, .var c2⟩ →
    (∀ s', s'.t 3 = .ptr 3 v3 0 → s'.bx 3 = ⟨v3, .var (enc3 (wideS w rest))⟩ → s'.t 2 = .ptr 2 v2 0 → s'.bx 2 = ⟨v2, .var c2⟩ → K (.x 0) s') → wP (PCallG Try.prog) (.loop b92_0) s K := by
  intro rest
  induction rest with
  | nil =>
    intro i w s hd hi hr t0 t4 t3 b3 t2 b2 hx
    refine w_loop ?_
    have hi' := get_end hd hi
    subst hi'
    rw [← put_same t0, ← put_same t4, ← put_same t3, ← box_same b3, ← put_same t2, ← box_same b2]
    unfold b92_0 r92_3 r92_4 r92_5
    repeat' (first | refine len_sl rfl (List.length_map _) ?_ | refine w_seq ?_ | refine w_ops ?_ | refine st_nil ?_ | refine th_n ?_ | refine th_x ?_ | refine w_exit ?_ | refine w_false rfl ?_ | refine mv_c rfl ?_ | refine lss_f rfl rfl (by omega) ?_)
    exact hx _ rfl rfl rfl rfl
  | cons r rest ih =>
    intro i w s hd hi hr t0 t4 t3 b3 t2 b2 hx
    refine w_loop ?_
    have he := get_enc hd
    have hil := get_len hd
    have hn := get_next hd
    have hr0 := hr r (by simp)
    have hT := C_rTimes r.1 r.2 hr0.1 hr0.2
    rw [← enc3_of] at hT
    have hP := C_rPlus w (of3 (r.1 * r.2))
    rw [← put_same t0, ← put_same t4, ← put_same t3, ← box_same b3, ← put_same t2, ← box_same b2]
    unfold b92_0 r92_3 r92_4 r92_5
    repeat' (first | refine len_sl rfl (List.length_map _) ?_ | refine call2 rfl rfl hT ?_ | refine call2 rfl rfl hP ?_ | refine w_seq ?_ | refine w_ops ?_ | refine w_opsD0 rfl ?_ | refine st_nil ?_ | refine th_n ?_ | refine bk_n ?_ | refine w_block ?_ | refine w_skip ?_ | refine w_true rfl ?_ | refine mv_c rfl ?_ | refine lss_t rfl rfl (by omega) ?_ | refine add_in rfl rfl (by omega) ?_ | refine load_rp rfl (Nat.le_of_ble_eq_true rfl) rfl ?_ | refine load_ptr rfl (by decide) rfl (Nat.le_of_ble_eq_true rfl) rfl ?_ | refine store_ptr rfl rfl (by decide) rfl rfl (Nat.le_of_ble_eq_true rfl) rfl ?_ | refine fad_rp rfl (Nat.le_of_ble_eq_true rfl) rfl ?_ | refine iaS_c rfl rfl (by omega) (by assumption) rfl ?_)
    exact ih (i + 1) (plus3 w (of3 (r.1 * r.2))) _ hn (by omega) (fun q hq => hr q (by simp [hq])) (by rfl) (by rfl) (by rfl) (by rfl) (by rfl) (by rfl) hx
theorem C_rWide (l : List Run) (hlen : l.length < 1000000) (hr : ranged l) : PCallG Try.prog 92 [.c (encL l)] (.c (.agg (enc3 (wideS (of3 0) l)))) [] := by
  refine pcallF Try.func92 c92 rfl ?_
  unfold p92 r92_0 r92_1 r92_2 r92_6
  repeat' (first | refine w_seq ?_ | refine w_ops ?_ | refine st_nil ?_ | refine th_n ?_ | refine w_block ?_ | refine mv_c rfl ?_ | refine alloc_ (fun u => ?_))
  refine wide_loop l hlen _ _ _ l 0 (of3 0) _ rfl (by omega) hr (by rfl) (by rfl) (by rfl) (by rfl) (by rfl) (by rfl) ?_
  intro s' t3 b3 t2 b2
  rw [← put_same t3, ← box_same b3, ← put_same t2, ← box_same b2]
  repeat' (first | refine w_seq ?_ | refine w_ops ?_ | refine st_nil ?_ | refine th_n ?_ | refine bk_x ?_ | refine w_ret ?_ | refine load_ptr rfl (by decide) rfl (Nat.le_of_ble_eq_true rfl) rfl ?_ | refine store_ptr rfl rfl (by decide) rfl rfl (Nat.le_of_ble_eq_true rfl) rfl ?_)
  exact fin_r (rv_cell rfl rfl rfl rfl rv_nil) rfl
end Go.Proofs.Ytcmejdkjfekoeaa
namespace Go.Proofs.Ytcmejdkjfekoeaa
open Go.Pl Go.Bag
set_option maxHeartbeats 8000000
theorem eq3_of (x y : Int) : eqC true [LK.b, LK.i, LK.i] (.agg (cellsV x)) (.agg (cellsV y)) = some (decide (x = y)) := by
  have h1 := absI_nn x
  have h2 := absI_nn y
  have e : eqC true [LK.b, LK.i, LK.i] (.agg (cellsV x)) (.agg (cellsV y)) = some ((decide (x < 0) == decide (y < 0)) && ((absI x / 18446744073709551616 == absI y / 18446744073709551616) && ((absI x % 18446744073709551616 == absI y % 18446744073709551616) && true))) := by
    simp [eqC, cellsV, shEq]
  rw [e]
  congr 1
  by_cases h : x = y
  · subst h; simp
  · rw [decide_eq_false h]
    by_cases hs : (x < 0 ↔ y < 0)
    · have : ¬ absI x = absI y := by unfold absI; split <;> split <;> omega
      have : ¬ (absI x / 18446744073709551616 = absI y / 18446744073709551616 ∧ absI x % 18446744073709551616 = absI y % 18446744073709551616) := by omega
      simp only [Bool.and_true, Bool.and_eq_false_iff, beq_eq_false_iff_ne]
      by_cases h3 : absI x / 18446744073709551616 = absI y / 18446744073709551616
      · exact .inr (.inr fun h4 => this ⟨h3, h4⟩)
      · exact .inr (.inl h3)
    · have : (decide (x < 0) == decide (y < 0)) = false := by
        rw [beq_eq_false_iff_ne]
        intro h3
        rw [decide_eq_decide] at h3
        exact hs h3
      rw [this]; rfl
theorem C_rOf1 (a : Int) (ha : I64 a) : PCallG Try.prog 95 [.c (.int .i64 a)] (.c (.agg (cellsV a))) [] := by
  refine pcallF Try.func95 c95 rfl ?_
  have hA := absI_in ha
  have c1 := C_rSize a ha
  have e : cellsV a = [.bool (decide (a < 0)), .int .u64 0, .int .u64 (absI a)] := by
    unfold cellsV
    rw [show absI a / 18446744073709551616 = 0 by omega, show absI a % 18446744073709551616 = absI a by omega]
  rw [e]
  unfold p95 r95_0 r95_1
  repeat' (first | refine call1 rfl c1 ?_ | refine w_seq ?_ | refine w_ops ?_ | refine st_nil ?_ | refine th_n ?_ | refine w_ret ?_ | refine mv_c rfl ?_ | refine lss_ rfl rfl ?_ | refine alloc_ (fun u => ?_) | refine build_ rfl rfl ?_ | refine store_ptr rfl rfl (by decide) rfl rfl (Nat.le_of_ble_eq_true rfl) rfl ?_)
  exact fin_r (rv_cell rfl rfl rfl rfl rv_nil) rfl
theorem C_Add (a b : Int) (ha : I64 a) (hb : I64 b) : PCallG Try.prog 96 [.c (.int .i64 a), .c (.int .i64 b)] (.c (if I64 (a + b) then .tup [.int .i64 (a + b), .bool true] else .tup [.int .i64 0, .bool false])) [] := by
  refine pcallF Try.func96 c96 rfl ?_
  have c1 := C_Total [a, b] (by simp) (fun x hx => by simp at hx; rcases hx with rfl | rfl <;> assumption)
  have e : totI [a, b] = a + b := by simp [totI]
  unfold totB at c1
  rw [e] at c1
  unfold p96 r96_0 r96_1
  by_cases h : I64 (a + b)
  · rw [if_pos h] at c1 ⊢
    repeat' (first | refine call1 rfl c1 ?_ | refine w_seq ?_ | refine w_ops ?_ | refine st_nil ?_ | refine th_n ?_ | refine w_ret ?_ | refine mv_c rfl ?_ | refine bsl_ rfl rfl ?_ | refine ext_ rfl rfl ?_)
    exact fin_r rfl rfl
  · rw [if_neg h] at c1 ⊢
    repeat' (first | refine call1 rfl c1 ?_ | refine w_seq ?_ | refine w_ops ?_ | refine st_nil ?_ | refine th_n ?_ | refine w_ret ?_ | refine mv_c rfl ?_ | refine bsl_ rfl rfl ?_ | refine ext_ rfl rfl ?_)
    exact fin_r rfl rfl
theorem C_measures (m : Int) : PCallG Try.prog 94 [.c (.int .i64 m)] (.c (.bool (decide (1 ≤ m ∧ m ≤ 2)))) [] := by
  refine pcallF Try.func94 c94 rfl ?_
  unfold p94 r94_0 r94_1
  by_cases h1 : 1 ≤ m
  · by_cases h2 : m ≤ 2
    · rw [decide_eq_true (by omega)]
      repeat' (first | refine w_seq ?_ | refine w_ops ?_ | refine st_nil ?_ | refine th_n ?_ | refine w_ret ?_ | refine g_yes rfl ?_ | refine mv_c rfl ?_ | refine pick_t rfl rfl ?_ | refine leq_t rfl rfl (by omega) ?_ | refine geq_t rfl rfl (by omega) ?_)
      exact fin_r rfl rfl
    · rw [decide_eq_false (by omega)]
      repeat' (first | refine w_seq ?_ | refine w_ops ?_ | refine st_nil ?_ | refine th_n ?_ | refine w_ret ?_ | refine g_yes rfl ?_ | refine mv_c rfl ?_ | refine pick_t rfl rfl ?_ | refine leq_f rfl rfl (by omega) ?_ | refine geq_t rfl rfl (by omega) ?_)
      exact fin_r rfl rfl
  · rw [decide_eq_false (by omega)]
    repeat' (first | refine w_seq ?_ | refine w_ops ?_ | refine st_nil ?_ | refine th_n ?_ | refine w_ret ?_ | refine g_no rfl ?_ | refine mv_c rfl ?_ | refine pick_f rfl rfl ?_ | refine geq_f rfl rfl (by omega) ?_)
    exact fin_r rfl rfl
end Go.Proofs.Ytcmejdkjfekoeaa

/- Part of the proof of DeltaTells, DeltaApplies, DeltaBack, DeltaJoins, DeltaSpoilt: lemmas. -/
import Derived.Test.YtcmejdkjfekoeaaDeltaS12
set_option linter.unusedVariables false
set_option linter.unusedSimpArgs false
namespace Go.Proofs.Ytcmejdkjfekoeaa
open Go.Pl Go.Bag
set_option maxHeartbeats 32000000
set_option maxRecDepth 100000
theorem get_ce {ls : List (Bool × RowS)} {i : Nat} {x : Bool × RowS} {rest : List (Bool × RowS)} (hd : ls.drop i = x :: rest) : (ls.map encCe)[i]? = some (encCe x) := by
  have : ls[i]? = some x := by have := congrArg List.head? hd; simpa [List.head?_drop] using this
  simp [this]
theorem get_de {ls : List Delta} {i : Nat} {x : Delta} {rest : List Delta} (hd : ls.drop i = x :: rest) : (ls.map encD)[i]? = some (encD x) := by
  have : ls[i]? = some x := by have := congrArg List.head? hd; simpa [List.head?_drop] using this
  simp [this]
theorem quo_2 {C : CallP} {l : List POp} {s : PS} {K : PS → Prop} {d : Nat} {x y : PO} {n : Nat} (hx : s.ev x = .c (.int .i64 (n : Int))) (hy : s.ev y = .c (.int .i64 2)) (hb : n ≤ 9223372036854775807) (h : wL C l (s.put d (.c (.int .i64 ((n / 2 : Nat) : Int)))) K) : wL C (⟨some d, .bin .quo x y, none⟩ :: l) s K := by
  refine bin_ hx hy ?_ h
  simp only [binC]
  rw [if_pos ⟨trivial, by omega⟩]
  have e : ((n : Int)).tdiv 2 = ((n / 2 : Nat) : Int) := rfl
  have h0 : 0 ≤ ((n / 2 : Nat) : Int) ∧ ((n / 2 : Nat) : Int) ≤ 9223372036854775807 := by omega
  rw [e, wrap_i64]
  generalize ((n / 2 : Nat) : Int) = q at *
  rw [show (q + 9223372036854775808) % 18446744073709551616 - 9223372036854775808 = q by omega]
theorem slc_pre {C : CallP} {l : List POp} {s : PS} {K : PS → Prop} {d sz : Nat} {x y : PO} {k : IntKind} {es zs : List (List CV)} {j : Nat} (hx : s.ev x = .c (.sl es)) (hy : s.ev y = .c (.int k (j : Int))) (hj : j ≤ es.length) (hw : ∀ e ∈ es, e.length = sz) (hz : es.take j = zs)
    (h : wL C l (s.put d (.c (.sl zs))) K) : wL C (⟨some d, .slc sz x none (some y), none⟩ :: l) s K :=
  slc_c hx rfl (by simp only [bound, PS.evc, hy]; rw [if_pos (Int.natCast_nonneg _)]; rfl) ⟨Nat.zero_le _, hj⟩ hw (by simpa using hz) h
theorem t10_l {K : Ex → PS → Prop} (l : List (Bool × RowS)) (hlen : l.length ≤ 1000) (hr : ∀ c ∈ l, inCh c) (m : Int) (v2 v5 v42 v43 v44 : PV) (x2 : Box) : ∀ (rest : List (Bool × RowS)) (j : Nat) (s : PS), l.drop j = rest → j ≤ l.length →
    s.t 1 = .c (encChs l) → s.t 2 = v2 → s.bx 2 = x2 → s.t 5 = v5 → s.t 42 = v42 → s.t 43 = v43 → s.t 44 = v44 → s.t 7 = .c (.int .i64 m) → s.t 8 = .c (.int .i64 j) →
    (∀ s', s'.t 1 = .c (encChs l) → s'.t 2 = v2 → s'.bx 2 = x2 → s'.t 5 = v5 → s'.t 42 = v42 → s'.t 43 = v43 → s'.t 44 = v44 → s'.t 7 = .c (.int .i64 m) → K (.x 2) s') → wP (PCallG Try.prog) (.loop b14_1) s K := by
  intro rest
  induction rest with
  | nil =>
    intro j s hd hj t1 t2 b2 t5 t42 t43 t44 t7 t8 hK
    refine w_loop ?_
    have := drop_end hd hj
    subst this
    rw [← put_same t1, ← put_same t2, ← box_same b2, ← put_same t5, ← put_same t42, ← put_same t43, ← put_same t44, ← put_same t7, ← put_same t8]
    unfold b14_1 r14_8 r14_9 r14_10 r14_11 r14_12 r14_13
    repeat' (first | refine len_sl rfl (List.length_map _) ?_ | refine w_seq ?_ | refine w_ops ?_ | refine st_nil ?_ | refine th_n ?_ | refine th_x ?_ | refine w_exit ?_ | refine w_false rfl ?_ | refine mv_c rfl ?_ | refine lss_f rfl rfl (by omega) ?_)
    exact hK _ (by rfl) (by rfl) (by rfl) (by rfl) (by rfl) (by rfl) (by rfl) (by rfl)
  | cons c rest ih =>
    intro j s hd hj t1 t2 b2 t5 t42 t43 t44 t7 t8 hK
    refine w_loop ?_
    have he := get_ce hd
    have hjl := get_slen hd
    have hn := drop_next hd
    have hc : inCh c := hr c (List.mem_of_mem_drop (by rw [hd]; simp))
    have c1 := C_dOf m c.1 c.2 hc.1 hc.2
    have c2 := C_rdOf m c.1 c.2 hc.1 hc.2
    have il := inD_len (inD_of (m := m) (del := c.1) hc.1 hc.2) (by omega)
    have c3 := C_rdSame (ofD m c.1 c.2).1 (ofD m c.1 c.2).1 il il
    rw [decide_eq_true rfl] at c3
    unfold dV at c1
    generalize (ofD m c.1 c.2) = o at *
    rw [← put_same t1, ← put_same t2, ← box_same b2, ← put_same t5, ← put_same t42, ← put_same t43, ← put_same t44, ← put_same t7, ← put_same t8]
    unfold b14_1 r14_8 r14_9 r14_10 r14_11 r14_12 r14_13
    repeat' (first | refine len_sl rfl (List.length_map _) ?_ | refine call2 rfl rfl c1 ?_ | refine call2 rfl rfl c2 ?_ | refine call2 rfl rfl c3 ?_ | refine ne_self rfl rfl ?_ | refine w_seq ?_ | refine w_ops ?_ | refine st_nil ?_ | refine th_n ?_ | refine bk_n ?_ | refine w_block ?_ | refine w_skip ?_ | refine w_true rfl ?_ | refine w_false rfl ?_ | refine g_yes rfl ?_ | refine mv_c rfl ?_ | refine pick_f rfl rfl ?_ | refine lss_t rfl rfl (by omega) ?_ | refine not_ rfl ?_ | refine add_in rfl rfl (by omega) ?_ | refine alloc_ (fun u => ?_) | refine load_rp rfl (Nat.le_of_ble_eq_true rfl) rfl ?_ | refine load_ptr rfl (by decide) rfl (Nat.le_of_ble_eq_true rfl) rfl ?_ | refine store_ptr rfl rfl (by decide) rfl rfl (Nat.le_of_ble_eq_true rfl) rfl ?_ | refine fad_ptr rfl rfl rfl ?_ | refine iaS_c rfl rfl (by omega) (by assumption) rfl ?_ | refine ext_ rfl rfl ?_)
    exact ih (j + 1) _ hn (by omega) (by rfl) (by rfl) (by rfl) (by rfl) (by rfl) (by rfl) (by rfl) (by rfl) (by rfl) hK
theorem t10_j {K : Ex → PS → Prop} (all : List Delta) (hin : ∀ d ∈ all, inD 1000 d) (hlen : all.length ≤ 60) (m : Int) (i : Nat) (x : Delta) (hx : (all.map encD)[i]? = some (encD x)) (hil : i < all.length) (hix : inD 1000 x) (v1 v2 v5 v42 v43 v44 : PV) (x2 : Box) : ∀ (rest : List Delta) (j : Nat) (s : PS), all.drop j = rest → j ≤ all.length →
    s.t 1 = v1 → s.t 2 = v2 → s.bx 2 = x2 → s.t 5 = v5 → s.t 42 = v42 → s.t 43 = v43 → s.t 44 = v44 → s.t 7 = .c (.int .i64 m) → s.t 12 = .c (.sl (all.map encD)) → s.t 13 = .c (.int .i64 i) → s.t 17 = .c (.int .i64 j) →
    (∀ s', s'.t 1 = v1 → s'.t 2 = v2 → s'.bx 2 = x2 → s'.t 5 = v5 → s'.t 42 = v42 → s'.t 43 = v43 → s'.t 44 = v44 → s'.t 7 = .c (.int .i64 m) → s'.t 12 = .c (.sl (all.map encD)) → s'.t 13 = .c (.int .i64 i) → K (.x 6) s') → wP (PCallG Try.prog) (.loop b14_3) s K := by
  intro rest
  induction rest with
  | nil =>
    intro j s hd hj t1 t2 b2 t5 t42 t43 t44 t7 t12 t13 t17 hK
    refine w_loop ?_
    have := drop_end hd hj
    subst this
    rw [← put_same t1, ← put_same t2, ← box_same b2, ← put_same t5, ← put_same t42, ← put_same t43, ← put_same t44, ← put_same t7, ← put_same t12, ← put_same t13, ← put_same t17]
    unfold b14_3 r14_23 r14_24 r14_25 r14_26 r14_27 r14_28
    repeat' (first | refine len_sl rfl (List.length_map _) ?_ | refine w_seq ?_ | refine w_ops ?_ | refine st_nil ?_ | refine th_n ?_ | refine th_x ?_ | refine w_exit ?_ | refine w_false rfl ?_ | refine mv_c rfl ?_ | refine lss_f rfl rfl (by omega) ?_)
    exact hK _ (by rfl) (by rfl) (by rfl) (by rfl) (by rfl) (by rfl) (by rfl) (by rfl) (by rfl) (by rfl)
  | cons y rest ih =>
    intro j s hd hj t1 t2 b2 t5 t42 t43 t44 t7 t12 t13 t17 hK
    refine w_loop ?_
    have he := get_de hd
    have hjl := get_slen hd
    have hn := drop_next hd
    have hiy : inD 1000 y := hin y (List.mem_of_mem_drop (by rw [hd]; simp))
    have c1 := C_dJoin m x y (inD_to hix (by omega)) (inD_to hiy (by omega))
    have c2 := C_rdJoin m x y (inD_to hix (by omega)) (inD_to hiy (by omega))
    have il := inD_len (inD_join (m := m) hix hiy) (by omega)
    have c3 := C_rdSame (joinD m x y).1 (joinD m x y).1 il il
    have c4 := C_dSame x y (inD_len hix (by omega)) (inD_len hiy (by omega))
    have c5 := C_rdSame x y (inD_len hix (by omega)) (inD_len hiy (by omega))
    rw [decide_eq_true rfl] at c3
    unfold dV at c1
    generalize joinD m x y = w at *
    generalize decide (x = y) = e at *
    rw [← put_same t1, ← put_same t2, ← box_same b2, ← put_same t5, ← put_same t42, ← put_same t43, ← put_same t44, ← put_same t7, ← put_same t12, ← put_same t13, ← put_same t17]
    unfold b14_3 r14_23 r14_24 r14_25 r14_26 r14_27 r14_28
    repeat' (first | refine len_sl rfl (List.length_map _) ?_ | refine call3 rfl rfl rfl c1 ?_ | refine call3 rfl rfl rfl c2 ?_ | refine call2 rfl rfl c3 ?_ | refine call2 rfl rfl c4 ?_ | refine call2 rfl rfl c5 ?_ | refine ne_self rfl rfl ?_ | refine w_seq ?_ | refine w_ops ?_ | refine w_opsD0 rfl ?_ | refine w_opsD1 rfl (fun u => ?_) | refine st_nil ?_ | refine th_n ?_ | refine bk_n ?_ | refine w_block ?_ | refine w_skip ?_ | refine w_true rfl ?_ | refine w_false rfl ?_ | refine g_yes rfl ?_ | refine mv_c rfl ?_ | refine pick_f rfl rfl ?_ | refine lss_t rfl rfl (by omega) ?_ | refine not_ rfl ?_ | refine add_in rfl rfl (by omega) ?_ | refine alloc_ (fun u => ?_) | refine load_rp rfl (Nat.le_of_ble_eq_true rfl) rfl ?_ | refine load_ptr rfl (by decide) rfl (Nat.le_of_ble_eq_true rfl) rfl ?_ | refine store_ptr rfl rfl (by decide) rfl rfl (Nat.le_of_ble_eq_true rfl) rfl ?_ | refine fad_ptr rfl rfl rfl ?_ | refine iaS_c rfl rfl (by omega) (by assumption) rfl ?_ | refine ext_ rfl rfl ?_)
    exact ih (j + 1) _ hn (by omega) (by rfl) (by rfl) (by rfl) (by rfl) (by rfl) (by rfl) (by rfl) (by rfl) (by rfl) (by rfl) (by rfl) hK
theorem t10_i {K : Ex → PS → Prop} (all : List Delta) (hin : ∀ d ∈ all, inD 1000 d) (hlen : all.length ≤ 60) (m : Int) (v1 v2 v5 v42 v43 v44 : PV) (x2 : Box) : ∀ (rest : List Delta) (j : Nat) (s : PS), all.drop j = rest → j ≤ all.length →
    s.t 1 = v1 → s.t 2 = v2 → s.bx 2 = x2 → s.t 5 = v5 → s.t 42 = v42 → s.t 43 = v43 → s.t 44 = v44 → s.t 7 = .c (.int .i64 m) → s.t 12 = .c (.sl (all.map encD)) → s.t 13 = .c (.int .i64 j) →
    (∀ s', s'.t 1 = v1 → s'.t 2 = v2 → s'.bx 2 = x2 → s'.t 5 = v5 → s'.t 42 = v42 → s'.t 43 = v43 → s'.t 44 = v44 → s'.t 7 = .c (.int .i64 m) → K (.x 4) s') → wP (PCallG Try.prog) (.loop b14_2) s K := by
  intro rest
  induction rest with
  | nil =>
    intro j s hd hj t1 t2 b2 t5 t42 t43 t44 t7 t12 t13 hK
    refine w_loop ?_
    have := drop_end hd hj
    subst this
    rw [← put_same t1, ← put_same t2, ← box_same b2, ← put_same t5, ← put_same t42, ← put_same t43, ← put_same t44, ← put_same t7, ← put_same t12, ← put_same t13]
    unfold b14_2 r14_16 r14_17 r14_18 r14_19 r14_20 r14_21 r14_22
    repeat' (first | refine len_sl rfl (List.length_map _) ?_ | refine w_seq ?_ | refine w_ops ?_ | refine st_nil ?_ | refine th_n ?_ | refine th_x ?_ | refine w_exit ?_ | refine w_false rfl ?_ | refine mv_c rfl ?_ | refine lss_f rfl rfl (by omega) ?_)
    exact hK _ (by rfl) (by rfl) (by rfl) (by rfl) (by rfl) (by rfl) (by rfl) (by rfl)
  | cons x rest ih =>
    intro j s hd hj t1 t2 b2 t5 t42 t43 t44 t7 t12 t13 hK
    refine w_loop ?_
    have he := get_de hd
    have hjl := get_slen hd
    have hn := drop_next hd
    have hix : inD 1000 x := hin x (List.mem_of_mem_drop (by rw [hd]; simp))
    have c1 := C_dNeg m x (inD_to hix (by omega))
    have c2 := C_rdNeg m x (inD_to hix (by omega))
    have il := inD_len (inD_neg (m := m) hix) (by omega)
    have c3 := C_rdSame (negD m x).1 (negD m x).1 il il
    have c4 := C_dGood m x (inD_to hix (by omega))
    have c5 := C_rdGood m x (inD_to hix (by omega))
    have c6 := C_dIdle m x (inD_to hix (by omega))
    have c7 := C_rdIdle m x (inD_to hix (by omega))
    rw [decide_eq_true rfl] at c3
    unfold dV at c1
    generalize negD m x = w at *
    generalize goodD m x = g at *
    generalize idleD m x = e at *
    rw [← put_same t1, ← put_same t2, ← box_same b2, ← put_same t5, ← put_same t42, ← put_same t43, ← put_same t44, ← put_same t7, ← put_same t12, ← put_same t13]
    unfold b14_2 r14_16 r14_17 r14_18 r14_19 r14_20 r14_21 r14_22
    repeat' (first | refine len_sl rfl (List.length_map _) ?_ | refine call2 rfl rfl c1 ?_ | refine call2 rfl rfl c2 ?_ | refine call2 rfl rfl c3 ?_ | refine call2 rfl rfl c4 ?_ | refine call2 rfl rfl c5 ?_ | refine call2 rfl rfl c6 ?_ | refine call2 rfl rfl c7 ?_ | refine ne_self rfl rfl ?_ | refine w_seq ?_ | refine w_ops ?_ | refine w_opsD0 rfl ?_ | refine st_nil ?_ | refine th_n ?_ | refine w_block ?_ | refine w_skip ?_ | refine w_true rfl ?_ | refine w_false rfl ?_ | refine g_yes rfl ?_ | refine mv_c rfl ?_ | refine pick_f rfl rfl ?_ | refine lss_t rfl rfl (by omega) ?_ | refine not_ rfl ?_ | refine alloc_ (fun u => ?_) | refine load_rp rfl (Nat.le_of_ble_eq_true rfl) rfl ?_ | refine load_ptr rfl (by decide) rfl (Nat.le_of_ble_eq_true rfl) rfl ?_ | refine store_ptr rfl rfl (by decide) rfl rfl (Nat.le_of_ble_eq_true rfl) rfl ?_ | refine fad_ptr rfl rfl rfl ?_ | refine iaS_c rfl rfl (by omega) (by assumption) rfl ?_ | refine ext_ rfl rfl ?_)
    refine t10_j all hin hlen m j x he hjl hix _ _ _ _ _ _ _ all 0 _ rfl (by omega) (by rfl) (by rfl) (by rfl) (by rfl) (by rfl) (by rfl) (by rfl) (by rfl) (by rfl) (by rfl) (by rfl) ?_
    intro s' t1 t2 b2 t5 t42 t43 t44 t7 t12 t13
    rw [← put_same t1, ← put_same t2, ← box_same b2, ← put_same t5, ← put_same t42, ← put_same t43, ← put_same t44, ← put_same t7, ← put_same t12, ← put_same t13]
    repeat' (first | refine w_ops ?_ | refine st_nil ?_ | refine th_n ?_ | refine bk_n ?_ | refine bk_x ?_ | refine mv_c rfl ?_ | refine add_in rfl rfl (by omega) ?_)
    exact ih (j + 1) _ hn (by omega) (by rfl) (by rfl) (by rfl) (by rfl) (by rfl) (by rfl) (by rfl) (by rfl) (by rfl) (by rfl) hK
theorem C_DeltaTells (M : Int) (A B : Delta) (l : List (Bool × RowS)) (hA : inD 9223372036854775807 A) (hB : inD 9223372036854775807 B) (rl : ∀ q ∈ l, inCh q) (hll : l.length ≤ 9223372036854775807) :
    PCallG Try.prog 14 [.c (.agg (.int .i64 M :: (encD A ++ encD B))), .c (encChs l)] (.c (.bool true)) [] := by
  have cw := C_wakes10
  have l1 := C_LightDelta A hA.2.2.2.1.2 hA.2.2.2.2.1.2 hA.2.2.2.2.2.1.2 hA.2.2.2.2.2.2.2
  have l2 := C_LightDelta B hB.2.2.2.1.2 hB.2.2.2.2.1.2 hB.2.2.2.2.2.1.2 hB.2.2.2.2.2.2.2
  refine pcallF Try.func14 c14 rfl ?_
  unfold p14 r14_0 r14_1 r14_2 r14_3 r14_4 r14_30
  cases q1 : lightD A with
  | false =>
    rw [q1] at l1
    repeat' (first | refine call1 rfl l1 ?_ | refine call0 cw ?_ | refine w_seq ?_ | refine w_ops ?_ | refine st_nil ?_ | refine th_n ?_ | refine th_r ?_ | refine w_ret ?_ | refine w_true rfl ?_ | refine g_no rfl ?_ | refine mv_c rfl ?_ | refine pick_t rfl rfl ?_ | refine not_ rfl ?_ | refine box_ rfl rfl rfl (fun u => ?_) | refine load_ptr rfl (by decide) rfl (Nat.le_of_ble_eq_true rfl) rfl ?_ | refine fad_ptr rfl rfl rfl ?_)
    exact fin_r rfl rfl
  | true =>
    rw [q1] at l1
    cases q2 : lightD B with
    | false =>
      rw [q2] at l2
      repeat' (first | refine call1 rfl l1 ?_ | refine call1 rfl l2 ?_ | refine call0 cw ?_ | refine w_seq ?_ | refine w_ops ?_ | refine st_nil ?_ | refine th_n ?_ | refine th_r ?_ | refine w_ret ?_ | refine w_true rfl ?_ | refine g_yes rfl ?_ | refine g_no rfl ?_ | refine mv_c rfl ?_ | refine pick_t rfl rfl ?_ | refine pick_f rfl rfl ?_ | refine not_ rfl ?_ | refine box_ rfl rfl rfl (fun u => ?_) | refine load_ptr rfl (by decide) rfl (Nat.le_of_ble_eq_true rfl) rfl ?_ | refine fad_ptr rfl rfl rfl ?_)
      exact fin_r rfl rfl
    | true =>
      rw [q2] at l2
      by_cases q3 : l.length ≤ 30
      · have iA : inD 1000 A := inD_to (lightD_in hA q1) (by omega)
        have iB : inD 1000 B := inD_to (lightD_in hB q2) (by omega)
        have is_ : ∀ m, inD 1000 (sumD m l).1 := fun m => inD_to (inD_sum m l 0 (zeroD, true) (inD_zero _) rl) (by omega)
        have rk : ∀ q ∈ l.take (l.length / 2), inCh q := fun q hq => rl q (List.mem_of_mem_take hq)
        have ik : ∀ m, inD 1000 (sumD m (l.take (l.length / 2))).1 := fun m => inD_to (inD_sum m _ 0 (zeroD, true) (inD_zero _) rk) (by simp; omega)
        have c3 : ∀ m, PCallG Try.prog 62 [.c (.int .i64 m), .c (encChs l)] (.c (rdV (sumD m l))) [] := fun m => C_lsum m l (by omega) rl
        have c4 : ∀ m, PCallG Try.prog 62 [.c (.int .i64 m), .c (.sl ((l.take (l.length / 2)).map encCe))] (.c (rdV (sumD m (l.take (l.length / 2))))) [] := fun m => C_lsum m _ (by simp; omega) rk
        have hall : ∀ m, ∀ d ∈ [A, B, (sumD m l).1, (sumD m (l.take (l.length / 2))).1], inD 1000 d := fun m d hd => by
          simp only [List.mem_cons, List.not_mem_nil, or_false] at hd
          rcases hd with rfl | rfl | rfl | rfl
          · exact iA
          · exact iB
          · exact is_ m
          · exact ik m
        have hw : ∀ e ∈ l.map encCe, e.length = 7 := fun e he => by obtain ⟨c, _, rfl⟩ := List.mem_map.mp he; rfl
        have hk : (l.map encCe).take (l.length / 2) = (l.take (l.length / 2)).map encCe := List.map_take.symm
        have hkl : l.length / 2 ≤ (l.map encCe).length := by simp; omega
        repeat' (first | refine len_sl (n := 3) (es := [_, _, _]) rfl rfl ?_ | refine len_sl rfl (List.length_map _) ?_ | refine call1 rfl l1 ?_ | refine call1 rfl l2 ?_ | refine quo_2 rfl rfl (by omega) ?_ | refine w_seq ?_ | refine w_ops ?_ | refine st_nil ?_ | refine th_n ?_ | refine w_block ?_ | refine w_skip ?_ | refine w_false rfl ?_ | refine g_yes rfl ?_ | refine mv_c rfl ?_ | refine pick_f rfl rfl ?_ | refine gtr_f rfl rfl (by omega) ?_ | refine not_ rfl ?_ | refine box_ rfl rfl rfl (fun u => ?_) | refine bsl_ rfl rfl ?_ | refine load_ptr rfl (by decide) rfl (Nat.le_of_ble_eq_true rfl) rfl ?_ | refine fad_ptr rfl rfl rfl ?_)
        refine w_loop ?_
        unfold b14_0 r14_5 r14_6 r14_7 r14_14 r14_15 r14_29
        repeat' (first | refine iaS_c rfl rfl (by omega) rfl rfl ?_ | refine w_seq ?_ | refine w_ops ?_ | refine st_nil ?_ | refine th_n ?_ | refine w_block ?_ | refine w_skip ?_ | refine w_true rfl ?_ | refine mv_c rfl ?_ | refine lss_t rfl rfl (by omega) ?_ | refine load_rp rfl (Nat.le_of_ble_eq_true rfl) rfl ?_)
        refine t10_l l (by omega) rl M _ _ _ _ _ _ l 0 _ rfl (by omega) (by rfl) (by rfl) (by rfl) (by rfl) (by rfl) (by rfl) (by rfl) (by rfl) (by rfl) ?_
        intro s' t1 t2 b2 t5 t42 t43 t44 t7
        rw [← put_same t1, ← put_same t2, ← box_same b2, ← put_same t5, ← put_same t42, ← put_same t43, ← put_same t44, ← put_same t7]
        repeat' (first | refine call2 rfl rfl (c3 M) ?_ | refine call2 rfl rfl (c4 M) ?_ | refine slc_pre rfl rfl hkl hw hk ?_ | refine w_seq ?_ | refine w_ops ?_ | refine w_opsD0 rfl ?_ | refine st_nil ?_ | refine th_n ?_ | refine bk_x ?_ | refine w_block ?_ | refine mv_c rfl ?_ | refine bsl_ rfl rfl ?_ | refine load_ptr rfl (by decide) rfl (Nat.le_of_ble_eq_true rfl) rfl ?_ | refine fad_ptr rfl rfl rfl ?_ | refine fld_ rfl (Nat.le_of_ble_eq_true rfl) rfl ?_)
        refine t10_i [A, B, (sumD M l).1, (sumD M (l.take (l.length / 2))).1] (hall M) (by simp) M _ _ _ _ _ _ _ _ 0 _ rfl (by simp) (by rfl) (by rfl) (by rfl) (by rfl) (by rfl) (by rfl) (by rfl) (by rfl) (by rfl) (by rfl) ?_
        intro s' t1 t2 b2 t5 t42 t43 t44 t7
        rw [← put_same t1, ← put_same t2, ← box_same b2, ← put_same t5, ← put_same t42, ← put_same t43, ← put_same t44, ← put_same t7]
        repeat' (first | refine w_ops ?_ | refine st_nil ?_ | refine th_n ?_ | refine bk_n ?_ | refine bk_x ?_ | refine mv_c rfl ?_ | refine add_in rfl rfl (by omega) ?_)
        refine w_loop ?_
        repeat' (first | refine iaS_c rfl rfl (by omega) rfl rfl ?_ | refine w_seq ?_ | refine w_ops ?_ | refine st_nil ?_ | refine th_n ?_ | refine w_block ?_ | refine w_skip ?_ | refine w_true rfl ?_ | refine mv_c rfl ?_ | refine lss_t rfl rfl (by omega) ?_ | refine load_rp rfl (Nat.le_of_ble_eq_true rfl) rfl ?_)
        refine t10_l l (by omega) rl 1 _ _ _ _ _ _ l 0 _ rfl (by omega) (by rfl) (by rfl) (by rfl) (by rfl) (by rfl) (by rfl) (by rfl) (by rfl) (by rfl) ?_
        intro s' t1 t2 b2 t5 t42 t43 t44 t7
        rw [← put_same t1, ← put_same t2, ← box_same b2, ← put_same t5, ← put_same t42, ← put_same t43, ← put_same t44, ← put_same t7]
        repeat' (first | refine call2 rfl rfl (c3 1) ?_ | refine call2 rfl rfl (c4 1) ?_ | refine slc_pre rfl rfl hkl hw hk ?_ | refine w_seq ?_ | refine w_ops ?_ | refine w_opsD0 rfl ?_ | refine st_nil ?_ | refine th_n ?_ | refine bk_x ?_ | refine w_block ?_ | refine mv_c rfl ?_ | refine bsl_ rfl rfl ?_ | refine load_ptr rfl (by decide) rfl (Nat.le_of_ble_eq_true rfl) rfl ?_ | refine fad_ptr rfl rfl rfl ?_ | refine fld_ rfl (Nat.le_of_ble_eq_true rfl) rfl ?_)
        refine t10_i [A, B, (sumD 1 l).1, (sumD 1 (l.take (l.length / 2))).1] (hall 1) (by simp) 1 _ _ _ _ _ _ _ _ 0 _ rfl (by simp) (by rfl) (by rfl) (by rfl) (by rfl) (by rfl) (by rfl) (by rfl) (by rfl) (by rfl) (by rfl) ?_
        intro s' t1 t2 b2 t5 t42 t43 t44 t7
        rw [← put_same t1, ← put_same t2, ← box_same b2, ← put_same t5, ← put_same t42, ← put_same t43, ← put_same t44, ← put_same t7]
        repeat' (first | refine w_ops ?_ | refine st_nil ?_ | refine th_n ?_ | refine bk_n ?_ | refine bk_x ?_ | refine mv_c rfl ?_ | refine add_in rfl rfl (by omega) ?_)
        refine w_loop ?_
        repeat' (first | refine iaS_c rfl rfl (by omega) rfl rfl ?_ | refine w_seq ?_ | refine w_ops ?_ | refine st_nil ?_ | refine th_n ?_ | refine w_block ?_ | refine w_skip ?_ | refine w_true rfl ?_ | refine mv_c rfl ?_ | refine lss_t rfl rfl (by omega) ?_ | refine load_rp rfl (Nat.le_of_ble_eq_true rfl) rfl ?_)
        refine t10_l l (by omega) rl 2 _ _ _ _ _ _ l 0 _ rfl (by omega) (by rfl) (by rfl) (by rfl) (by rfl) (by rfl) (by rfl) (by rfl) (by rfl) (by rfl) ?_
        intro s' t1 t2 b2 t5 t42 t43 t44 t7
        rw [← put_same t1, ← put_same t2, ← box_same b2, ← put_same t5, ← put_same t42, ← put_same t43, ← put_same t44, ← put_same t7]
        repeat' (first | refine call2 rfl rfl (c3 2) ?_ | refine call2 rfl rfl (c4 2) ?_ | refine slc_pre rfl rfl hkl hw hk ?_ | refine w_seq ?_ | refine w_ops ?_ | refine w_opsD0 rfl ?_ | refine st_nil ?_ | refine th_n ?_ | refine bk_x ?_ | refine w_block ?_ | refine mv_c rfl ?_ | refine bsl_ rfl rfl ?_ | refine load_ptr rfl (by decide) rfl (Nat.le_of_ble_eq_true rfl) rfl ?_ | refine fad_ptr rfl rfl rfl ?_ | refine fld_ rfl (Nat.le_of_ble_eq_true rfl) rfl ?_)
        refine t10_i [A, B, (sumD 2 l).1, (sumD 2 (l.take (l.length / 2))).1] (hall 2) (by simp) 2 _ _ _ _ _ _ _ _ 0 _ rfl (by simp) (by rfl) (by rfl) (by rfl) (by rfl) (by rfl) (by rfl) (by rfl) (by rfl) (by rfl) (by rfl) ?_
        intro s' t1 t2 b2 t5 t42 t43 t44 t7
        rw [← put_same t1, ← put_same t2, ← box_same b2, ← put_same t5, ← put_same t42, ← put_same t43, ← put_same t44, ← put_same t7]
        repeat' (first | refine w_ops ?_ | refine st_nil ?_ | refine th_n ?_ | refine bk_n ?_ | refine bk_x ?_ | refine mv_c rfl ?_ | refine add_in rfl rfl (by omega) ?_)
        refine w_loop ?_
        repeat' (first | refine call0 cw ?_ | refine w_seq ?_ | refine w_ops ?_ | refine st_nil ?_ | refine th_n ?_ | refine th_x ?_ | refine bk_x ?_ | refine w_exit ?_ | refine w_ret ?_ | refine w_false rfl ?_ | refine mv_c rfl ?_ | refine lss_f rfl rfl (by omega) ?_)
        exact fin_r rfl rfl
      · repeat' (first | refine len_sl rfl (List.length_map _) ?_ | refine call1 rfl l1 ?_ | refine call1 rfl l2 ?_ | refine call0 cw ?_ | refine w_seq ?_ | refine w_ops ?_ | refine st_nil ?_ | refine th_n ?_ | refine th_r ?_ | refine w_ret ?_ | refine w_true rfl ?_ | refine g_yes rfl ?_ | refine mv_c rfl ?_ | refine pick_f rfl rfl ?_ | refine gtr_t rfl rfl (by omega) ?_ | refine not_ rfl ?_ | refine box_ rfl rfl rfl (fun u => ?_) | refine load_ptr rfl (by decide) rfl (Nat.le_of_ble_eq_true rfl) rfl ?_ | refine fad_ptr rfl rfl rfl ?_)
        exact fin_r rfl rfl
theorem L_DeltaTells (c0 : List CV) (h0 : OkL [.int .i64, .int .i64, .int .i64, .int .i64, .sl [.int .i64, .int .i64], .sl [.int .i64, .int .i64], .sl [.int .i64, .int .i64], .sl [.int .i64, .int .i64], .int .i64, .int .i64, .int .i64, .sl [.int .i64, .int .i64], .sl [.int .i64, .int .i64], .sl [.int .i64, .int .i64], .sl [.int .i64, .int .i64]] c0)
    (c1 : CV) (h1 : LF.Ok (.sl [.bool, .int .u8, .int .u8, .int .u8, .int .u8, .int .i64, .int .i64]) c1) : PCallG Try.prog 14 [.c (.agg c0), .c c1] (.c (.bool true)) [] := by
  obtain ⟨a, b, rfl, ha, hb⟩ := okL_append (k := [.int .i64]) h0
  obtain ⟨p, q, rfl, hp, hq⟩ := okL_append (k := [.int .i64, .int .i64, .int .i64, .sl [.int .i64, .int .i64], .sl [.int .i64, .int .i64], .sl [.int .i64, .int .i64], .sl [.int .i64, .int .i64]]) hb
  obtain ⟨A, rfl, iA⟩ := ok_delta hp
  obtain ⟨B, rfl, iB⟩ := ok_delta hq
  obtain ⟨hl, he⟩ := ha
  obtain ⟨l, rfl, rl, hll⟩ := ok_chs h1
  match a, hl, he with
  | [x0], _, he =>
    obtain ⟨M, rfl, _⟩ := ok_i64 (he 0 (by simp) (by simp))
    exact C_DeltaTells M A B l iA iB rl hll
end Go.Proofs.Ytcmejdkjfekoeaa

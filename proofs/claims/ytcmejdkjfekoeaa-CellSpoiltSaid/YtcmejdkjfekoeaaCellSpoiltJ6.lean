/- Part of the proof of CellSpoilt: lemmas. -/
import Derived.Test.YtcmejdkjfekoeaaCSpoilS5
import Derived.Test.YtcmejdkjfekoeaaCellSpoiltJ1
import Derived.Test.YtcmejdkjfekoeaaCellSpoiltJ2
import Derived.Test.YtcmejdkjfekoeaaCellSpoiltJ3
import Derived.Test.YtcmejdkjfekoeaaCellSpoiltJ4
import Derived.Test.YtcmejdkjfekoeaaCellSpoiltJ5
set_option linter.unusedVariables false
set_option linter.unusedSimpArgs false
namespace Go.Proofs.Ytcmejdkjfekoeaa
open Go.Pl Go.Bag
set_option maxHeartbeats 16000000
def inR (r : RowS) : Prop := in64 r.m0 ∧ in64 r.m1
def mv (i : Int) (r : RowS) : Int := if i = 0 then r.m0 else r.m1
theorem get_row {l : List RowS} {i : Nat} {x : RowS} {rest : List RowS} (hd : l.drop i = x :: rest) : (l.map encRow)[i]? = some (encRow x) := by
  have : l[i]? = some x := by have := congrArg List.head? hd; simpa [List.head?_drop] using this
  simp [this]
theorem drop_len {α : Type} {l : List α} {i : Nat} {a : α} {rest : List α} (hd : l.drop i = a :: rest) : i < l.length := by
  have := congrArg List.length hd; simp at this; omega
theorem drop_next {α : Type} {l : List α} {i : Nat} {a : α} {rest : List α} (hd : l.drop i = a :: rest) : l.drop (i + 1) = rest := by
  have := congrArg List.tail hd; simpa [List.tail_drop] using this
theorem drop_end {α : Type} {l : List α} {i : Nat} (hd : l.drop i = []) (hi : i ≤ l.length) : i = l.length := by
  have := List.drop_eq_nil_iff.mp hd; omega
theorem vals_loop {C : CallP} {K : Ex → PS → Prop} (l : List RowS) (hlen : l.length ≤ 1000) (m : Int) (hm : m = 0 ∨ m = 1) (v0 v1 v25 v26 v6 v4 : PV) (x6 x4 : Box) : ∀ (rest : List RowS) (k : Nat) (out : List Int) (s : PS), l.drop k = rest → k ≤ l.length → out.length ≤ k →
    s.t 29 = .c (encRows l) → s.t 30 = .c (.int .i64 l.length) → s.t 31 = .c (.int .i64 k) → s.t 7 = .c (.int .i64 m) → s.t 8 = .osl 8 (s.bx 8).ver 0 (out.map encI).length → s.bx 8 = ⟨(s.bx 8).ver, .sl 1 (out.map encI)⟩ →
    s.t 0 = v0 → s.t 1 = v1 → s.t 25 = v25 → s.t 26 = v26 → s.t 6 = v6 → s.t 4 = v4 → s.bx 6 = x6 → s.bx 4 = x4 →
    (∀ s' v, s'.t 7 = .c (.int .i64 m) → s'.t 8 = .osl 8 v 0 ((out ++ rest.map (mv m)).map encI).length → s'.bx 8 = ⟨v, .sl 1 ((out ++ rest.map (mv m)).map encI)⟩ → s'.t 0 = v0 → s'.t 1 = v1 → s'.t 25 = v25 → s'.t 26 = v26 → s'.t 6 = v6 → s'.t 4 = v4 → s'.bx 6 = x6 → s'.bx 4 = x4 → K (.x 2) s') → wP C (.loop b45_1) s K := by
  intro rest
  induction rest with
  | nil =>
    intro k out s hd hk ho t29 t30 t31 t7 t8 b8 t0 t1 t25 t26 t6 t4 b6 b4 hx
    refine w_loop ?_
    have hk' := drop_end hd hk
    subst hk'
    generalize (s.bx 8).ver = v8 at t8 b8
    rw [← put_same t29, ← put_same t30, ← put_same t31, ← put_same t7, ← put_same t8, ← put_same t0, ← put_same t1, ← put_same t25, ← put_same t26, ← put_same t6, ← put_same t4, ← box_same b8, ← box_same b6, ← box_same b4]
    unfold b45_1 r45_9 r45_10 r45_11 r45_12
    repeat' (first | refine w_seq ?_ | refine w_ops ?_ | refine st_nil ?_ | refine th_n ?_ | refine th_x ?_ | refine w_exit ?_ | refine w_false rfl ?_ | refine lss_f rfl rfl (by omega) ?_)
    exact hx _ _ rfl (by simp only [List.map_nil, List.append_nil]; rfl) (by simp only [List.map_nil, List.append_nil]; rfl) rfl rfl rfl rfl rfl rfl rfl rfl
  | cons r rest ih =>
    intro k out s hd hk ho t29 t30 t31 t7 t8 b8 t0 t1 t25 t26 t6 t4 b6 b4 hx
    refine w_loop ?_
    have he := get_row hd
    have hkl := drop_len hd
    have hn := drop_next hd
    have z1 : ∀ q : List CV, (out.map encI).length + [q].length ≤ maxGrow := fun q => by simp [maxGrow]; omega
    have e : ∀ a : Int, out.map encI ++ [[CV.int .i64 a]] = (out ++ [a]).map encI := fun a => by simp [encI]
    generalize (s.bx 8).ver = v8 at t8 b8
    rw [← put_same t29, ← put_same t30, ← put_same t31, ← put_same t7, ← put_same t8, ← put_same t0, ← put_same t1, ← put_same t25, ← put_same t26, ← put_same t6, ← put_same t4, ← box_same b8, ← box_same b6, ← box_same b4]
    unfold b45_1 r45_9 r45_10 r45_11 r45_12
    rcases hm with rfl | rfl
    · rw [show out ++ (r :: rest).map (mv 0) = (out ++ [r.m0]) ++ rest.map (mv 0) by simp [mv]] at hx
      repeat' (first | refine app_own rfl rfl rfl rfl (z1 _) (by intro e he; cases List.mem_singleton.mp he; rfl) (e _) rfl (fun _ _ => ?_) | refine w_seq ?_ | refine w_ops ?_ | refine st_nil ?_ | refine th_n ?_ | refine bk_n ?_ | refine w_block ?_ | refine w_skip ?_ | refine w_true rfl ?_ | refine mv_c rfl ?_ | refine mv_osl rfl ?_ | refine lss_t rfl rfl (by omega) ?_ | refine add_in rfl rfl (by omega) ?_ | refine alloc_ (fun u => ?_) | refine bsl_ rfl rfl ?_ | refine load_rp rfl (Nat.le_of_ble_eq_true rfl) rfl ?_ | refine load_ptr rfl (by decide) rfl (Nat.le_of_ble_eq_true rfl) rfl ?_ | refine store_ptr rfl rfl (by decide) rfl rfl (Nat.le_of_ble_eq_true rfl) rfl ?_ | refine fad_ptr rfl rfl rfl ?_ | refine iaA_ptr rfl rfl rfl (by omega) rfl ?_ | refine iaS_c rfl rfl (by omega) (by assumption) rfl ?_ | refine w_rn rfl (by decide) rfl rfl (fun _ _ => ?_))
      exact ih (k + 1) (out ++ [r.m0]) _ hn (by omega) (by simp; omega) (by rfl) (by rfl) (by rfl) (by rfl) (by rfl) (by rfl) (by rfl) (by rfl) (by rfl) (by rfl) (by rfl) (by rfl) (by rfl) (by rfl) hx
    · rw [show out ++ (r :: rest).map (mv 1) = (out ++ [r.m1]) ++ rest.map (mv 1) by simp [mv]] at hx
      repeat' (first | refine app_own rfl rfl rfl rfl (z1 _) (by intro e he; cases List.mem_singleton.mp he; rfl) (e _) rfl (fun _ _ => ?_) | refine w_seq ?_ | refine w_ops ?_ | refine st_nil ?_ | refine th_n ?_ | refine bk_n ?_ | refine w_block ?_ | refine w_skip ?_ | refine w_true rfl ?_ | refine mv_c rfl ?_ | refine mv_osl rfl ?_ | refine lss_t rfl rfl (by omega) ?_ | refine add_in rfl rfl (by omega) ?_ | refine alloc_ (fun u => ?_) | refine bsl_ rfl rfl ?_ | refine load_rp rfl (Nat.le_of_ble_eq_true rfl) rfl ?_ | refine load_ptr rfl (by decide) rfl (Nat.le_of_ble_eq_true rfl) rfl ?_ | refine store_ptr rfl rfl (by decide) rfl rfl (Nat.le_of_ble_eq_true rfl) rfl ?_ | refine fad_ptr rfl rfl rfl ?_ | refine iaA_ptr rfl rfl rfl (by omega) rfl ?_ | refine iaS_c rfl rfl (by omega) (by assumption) rfl ?_ | refine w_rn rfl (by decide) rfl rfl (fun _ _ => ?_))
      exact ih (k + 1) (out ++ [r.m1]) _ hn (by omega) (by simp; omega) (by rfl) (by rfl) (by rfl) (by rfl) (by rfl) (by rfl) (by rfl) (by rfl) (by rfl) (by rfl) (by rfl) (by rfl) (by rfl) (by rfl) hx
theorem mv0 : mv 0 = (·.m0) := by funext r; simp [mv]
theorem mv1 : mv 1 = (·.m1) := by funext r; simp [mv]
theorem sum_vals (l : List Int) (hl : l.length ≤ 1000) : sumB (ofL l) = if I64 (sumI l) then (sumI l, true) else (0, false) := by
  have hg : good (ofL l) = true := good_ofL (by omega)
  simp only [sumB, hg, wsum_ofL, true_and]
theorem C_cOf (m : Int) (l : List RowS) (hlen : l.length ≤ 1000) (hr : ∀ r ∈ l, inR r) : PCallG Try.prog 45 [.c (.int .i64 m), .c (encRows l)] (.c (.tup [encCell (ofC m l).1, .bool (ofC m l).2])) [] := by
  refine pcallF Try.func45 c45 rfl ?_
  have c1 := C_measures m
  have l0 : (l.map (·.m0)).length ≤ 1000 := by simp; omega
  have l1 : (l.map (·.m1)).length ≤ 1000 := by simp; omega
  have r0 : ∀ a ∈ l.map (·.m0), I64 a := fun a ha => by obtain ⟨r, hr', rfl⟩ := List.mem_map.mp ha; exact (hr r hr').1
  have r1 : ∀ a ∈ l.map (·.m1), I64 a := fun a ha => by obtain ⟨r, hr', rfl⟩ := List.mem_map.mp ha; exact (hr r hr').2
  have c2 := C_Of (l.map (·.m0)) (by omega)
  have c3 := C_Of (l.map (·.m1)) (by omega)
  have k0 := (ofL_facts (l.map (·.m0))).2.2.2.2
  have k1 := (ofL_facts (l.map (·.m1))).2.2.2.2
  have c4 := C_Sum (ofL (l.map (·.m0))) (by omega) (ranged_ofL r0 (by omega))
  have c5 := C_Sum (ofL (l.map (·.m1))) (by omega) (ranged_ofL r1 (by omega))
  rw [sum_vals _ l0] at c4
  rw [sum_vals _ l1] at c5
  unfold p45 r45_0 r45_1 r45_2 r45_3 r45_4 r45_19
  by_cases hm : 1 ≤ m ∧ m ≤ 2
  · rw [decide_eq_true hm] at c1
    cases l with
    | nil =>
      rw [show ofC m [] = (zeroC, false) by simp [ofC]]
      repeat' (first | refine call1 rfl c1 ?_ | refine len_sl (es := []) rfl rfl ?_ | refine w_seq ?_ | refine w_ops ?_ | refine st_nil ?_ | refine th_n ?_ | refine th_r ?_ | refine w_ret ?_ | refine w_true rfl ?_ | refine g_yes rfl ?_ | refine mv_c rfl ?_ | refine pick_f rfl rfl ?_ | refine eqd_ rfl rfl ?_ | refine not_ rfl ?_ | refine alloc_ (fun u => ?_) | refine build_ rfl rfl ?_ | refine store_ptr rfl rfl (by decide) rfl rfl (Nat.le_of_ble_eq_true rfl) rfl ?_)
      exact fin_r (rv_cell rfl rfl rfl rfl (rv_t rfl rv_nil)) rfl
    | cons r0' l' =>
      generalize hL : r0' :: l' = l at *
      have hne : l ≠ [] := by rw [← hL]; simp
      have hpos : 0 < l.length := by rw [← hL]; simp
      have lenE : (l.map encRow).length = l.length := List.length_map _
      by_cases f0 : I64 (sumI (l.map (·.m0)))
      · rw [if_pos f0] at c4
        by_cases hm2 : m = 2
        · by_cases f1 : I64 (sumI (l.map (·.m1)))
          · rw [if_pos f1] at c5
            rw [show ofC m l = (⟨l.length, sumI (l.map (·.m0)), sumI (l.map (·.m1)), ofL (l.map (·.m0)), ofL (l.map (·.m1))⟩, true) by
              unfold ofC; rw [if_pos ⟨hm, hne, f0, fun _ => f1⟩]; simp [hm2]]
            repeat' (first | refine call1 rfl c1 ?_ | refine len_sl rfl lenE ?_ | refine w_seq ?_ | refine w_ops ?_ | refine st_nil ?_ | refine th_n ?_ | refine w_block ?_ | refine w_skip ?_ | refine w_false rfl ?_ | refine g_yes rfl ?_ | refine mv_c rfl ?_ | refine pick_f rfl rfl ?_ | refine eql_f rfl rfl (by omega) ?_ | refine not_ rfl ?_ | refine alloc_ (fun u => ?_) | refine build_ rfl rfl ?_ | refine store_ptr rfl rfl (by decide) rfl rfl (Nat.le_of_ble_eq_true rfl) rfl ?_)
            refine w_loop ?_
            unfold b45_0 r45_5 r45_6 r45_7 r45_8 r45_13 r45_14 r45_15 r45_16 r45_17 r45_18
            repeat' (first | refine len_sl rfl lenE ?_ | refine w_seq ?_ | refine w_ops ?_ | refine st_nil ?_ | refine th_n ?_ | refine w_block ?_ | refine w_skip ?_ | refine w_true rfl ?_ | refine mv_c rfl ?_ | refine lss_t rfl rfl (by omega) ?_ | refine own0_ (fun u => ?_))
            refine vals_loop l hlen 0 (.inl rfl) _ _ _ _ _ _ _ _ l 0 [] _ rfl (by omega) (by simp) (by rfl) (by rfl) (by rfl) (by rfl) (by rfl) (by rfl) (by rfl) (by rfl) (by rfl) (by rfl) (by rfl) (by rfl) (by rfl) (by rfl) ?_
            intro s' v t7 t8 b8 t0 t1 t25 t26 t6 t4 b6 b4
            rw [List.nil_append, mv0] at t8 b8
            rw [← put_same t7, ← put_same t8, ← put_same t0, ← put_same t1, ← put_same t25, ← put_same t26, ← put_same t6, ← put_same t4, ← box_same b8, ← box_same b6, ← box_same b4]
            repeat' (first | refine call1 rfl c2 ?_ | refine call1 rfl c4 ?_ | refine w_seq ?_ | refine w_ops ?_ | refine st_nil ?_ | refine th_n ?_ | refine bk_n ?_ | refine bk_x ?_ | refine w_skip ?_ | refine w_false rfl ?_ | refine mv_c rfl ?_ | refine not_ rfl ?_ | refine add_in rfl rfl (by omega) ?_ | refine load_ptr rfl (by decide) rfl (Nat.le_of_ble_eq_true rfl) rfl ?_ | refine store_ptr rfl rfl (by decide) rfl rfl (Nat.le_of_ble_eq_true rfl) rfl ?_ | refine fad_ptr rfl rfl rfl ?_ | refine iaA_ptr rfl rfl rfl (by omega) rfl ?_ | refine ext_ rfl rfl ?_ | refine w_fz_osl rfl rfl rfl (fun u => ?_))
            refine w_loop ?_
            repeat' (first | refine len_sl rfl lenE ?_ | refine w_seq ?_ | refine w_ops ?_ | refine st_nil ?_ | refine th_n ?_ | refine w_block ?_ | refine w_skip ?_ | refine w_true rfl ?_ | refine mv_c rfl ?_ | refine lss_t rfl rfl (by omega) ?_ | refine own0_ (fun u => ?_))
            refine vals_loop l hlen 1 (.inr rfl) _ _ _ _ _ _ _ _ l 0 [] _ rfl (by omega) (by simp) (by rfl) (by rfl) (by rfl) (by rfl) (by rfl) (by rfl) (by rfl) (by rfl) (by rfl) (by rfl) (by rfl) (by rfl) (by rfl) (by rfl) ?_
            intro s' v t7 t8 b8 t0 t1 t25 t26 t6 t4 b6 b4
            rw [List.nil_append, mv1] at t8 b8
            rw [← put_same t7, ← put_same t8, ← put_same t0, ← put_same t1, ← put_same t25, ← put_same t26, ← put_same t6, ← put_same t4, ← box_same b8, ← box_same b6, ← box_same b4]
            repeat' (first | refine call1 rfl c3 ?_ | refine call1 rfl c5 ?_ | refine w_seq ?_ | refine w_ops ?_ | refine st_nil ?_ | refine th_n ?_ | refine bk_n ?_ | refine bk_x ?_ | refine w_skip ?_ | refine w_false rfl ?_ | refine mv_c rfl ?_ | refine not_ rfl ?_ | refine add_in rfl rfl (by omega) ?_ | refine load_ptr rfl (by decide) rfl (Nat.le_of_ble_eq_true rfl) rfl ?_ | refine store_ptr rfl rfl (by decide) rfl rfl (Nat.le_of_ble_eq_true rfl) rfl ?_ | refine fad_ptr rfl rfl rfl ?_ | refine iaA_ptr rfl rfl rfl (by omega) rfl ?_ | refine ext_ rfl rfl ?_ | refine w_fz_osl rfl rfl rfl (fun u => ?_))
            refine w_loop ?_
            repeat' (first | refine w_seq ?_ | refine w_ops ?_ | refine st_nil ?_ | refine th_n ?_ | refine th_x ?_ | refine bk_x ?_ | refine w_exit ?_ | refine w_ret ?_ | refine w_false rfl ?_ | refine mv_c rfl ?_ | refine lss_f rfl rfl (by omega) ?_ | refine load_ptr rfl (by decide) rfl (Nat.le_of_ble_eq_true rfl) rfl ?_ | refine store_ptr rfl rfl (by decide) rfl rfl (Nat.le_of_ble_eq_true rfl) rfl ?_)
            exact fin_r (rv_cell rfl rfl rfl rfl (rv_t rfl rv_nil)) rfl
          · rw [if_neg f1] at c5
            rw [show ofC m l = (zeroC, false) by unfold ofC; rw [if_neg (fun h => f1 (h.2.2.2 hm2))]]
            repeat' (first | refine call1 rfl c1 ?_ | refine len_sl rfl lenE ?_ | refine w_seq ?_ | refine w_ops ?_ | refine st_nil ?_ | refine th_n ?_ | refine w_block ?_ | refine w_skip ?_ | refine w_false rfl ?_ | refine g_yes rfl ?_ | refine mv_c rfl ?_ | refine pick_f rfl rfl ?_ | refine eql_f rfl rfl (by omega) ?_ | refine not_ rfl ?_ | refine alloc_ (fun u => ?_) | refine build_ rfl rfl ?_ | refine store_ptr rfl rfl (by decide) rfl rfl (Nat.le_of_ble_eq_true rfl) rfl ?_)
            refine w_loop ?_
            unfold b45_0 r45_5 r45_6 r45_7 r45_8 r45_13 r45_14 r45_15 r45_16 r45_17 r45_18
            repeat' (first | refine len_sl rfl lenE ?_ | refine w_seq ?_ | refine w_ops ?_ | refine st_nil ?_ | refine th_n ?_ | refine w_block ?_ | refine w_skip ?_ | refine w_true rfl ?_ | refine mv_c rfl ?_ | refine lss_t rfl rfl (by omega) ?_ | refine own0_ (fun u => ?_))
            refine vals_loop l hlen 0 (.inl rfl) _ _ _ _ _ _ _ _ l 0 [] _ rfl (by omega) (by simp) (by rfl) (by rfl) (by rfl) (by rfl) (by rfl) (by rfl) (by rfl) (by rfl) (by rfl) (by rfl) (by rfl) (by rfl) (by rfl) (by rfl) ?_
            intro s' v t7 t8 b8 t0 t1 t25 t26 t6 t4 b6 b4
            rw [List.nil_append, mv0] at t8 b8
            rw [← put_same t7, ← put_same t8, ← put_same t0, ← put_same t1, ← put_same t25, ← put_same t26, ← put_same t6, ← put_same t4, ← box_same b8, ← box_same b6, ← box_same b4]
            repeat' (first | refine call1 rfl c2 ?_ | refine call1 rfl c4 ?_ | refine w_seq ?_ | refine w_ops ?_ | refine st_nil ?_ | refine th_n ?_ | refine bk_n ?_ | refine bk_x ?_ | refine w_skip ?_ | refine w_false rfl ?_ | refine mv_c rfl ?_ | refine not_ rfl ?_ | refine add_in rfl rfl (by omega) ?_ | refine load_ptr rfl (by decide) rfl (Nat.le_of_ble_eq_true rfl) rfl ?_ | refine store_ptr rfl rfl (by decide) rfl rfl (Nat.le_of_ble_eq_true rfl) rfl ?_ | refine fad_ptr rfl rfl rfl ?_ | refine iaA_ptr rfl rfl rfl (by omega) rfl ?_ | refine ext_ rfl rfl ?_ | refine w_fz_osl rfl rfl rfl (fun u => ?_))
            refine w_loop ?_
            repeat' (first | refine len_sl rfl lenE ?_ | refine w_seq ?_ | refine w_ops ?_ | refine st_nil ?_ | refine th_n ?_ | refine w_block ?_ | refine w_skip ?_ | refine w_true rfl ?_ | refine mv_c rfl ?_ | refine lss_t rfl rfl (by omega) ?_ | refine own0_ (fun u => ?_))
            refine vals_loop l hlen 1 (.inr rfl) _ _ _ _ _ _ _ _ l 0 [] _ rfl (by omega) (by simp) (by rfl) (by rfl) (by rfl) (by rfl) (by rfl) (by rfl) (by rfl) (by rfl) (by rfl) (by rfl) (by rfl) (by rfl) (by rfl) (by rfl) ?_
            intro s' v t7 t8 b8 t0 t1 t25 t26 t6 t4 b6 b4
            rw [List.nil_append, mv1] at t8 b8
            rw [← put_same t7, ← put_same t8, ← put_same t0, ← put_same t1, ← put_same t25, ← put_same t26, ← put_same t6, ← put_same t4, ← box_same b8, ← box_same b6, ← box_same b4]
            repeat' (first | refine call1 rfl c3 ?_ | refine call1 rfl c5 ?_ | refine w_seq ?_ | refine w_ops ?_ | refine st_nil ?_ | refine th_n ?_ | refine th_r ?_ | refine bk_r ?_ | refine bk_x ?_ | refine w_ret ?_ | refine w_true rfl ?_ | refine mv_c rfl ?_ | refine not_ rfl ?_ | refine build_ rfl rfl ?_ | refine load_ptr rfl (by decide) rfl (Nat.le_of_ble_eq_true rfl) rfl ?_ | refine store_ptr rfl rfl (by decide) rfl rfl (Nat.le_of_ble_eq_true rfl) rfl ?_ | refine fad_ptr rfl rfl rfl ?_ | refine iaA_ptr rfl rfl rfl (by omega) rfl ?_ | refine ext_ rfl rfl ?_ | refine w_fz_osl rfl rfl rfl (fun u => ?_))
            exact fin_r (rv_cell rfl rfl rfl rfl (rv_t rfl rv_nil)) rfl
        · rw [show ofC m l = (⟨l.length, sumI (l.map (·.m0)), 0, ofL (l.map (·.m0)), []⟩, true) by
            unfold ofC; rw [if_pos ⟨hm, hne, f0, fun h => absurd h hm2⟩]; simp [hm2]]
          repeat' (first | refine call1 rfl c1 ?_ | refine len_sl rfl lenE ?_ | refine w_seq ?_ | refine w_ops ?_ | refine st_nil ?_ | refine th_n ?_ | refine w_block ?_ | refine w_skip ?_ | refine w_false rfl ?_ | refine g_yes rfl ?_ | refine mv_c rfl ?_ | refine pick_f rfl rfl ?_ | refine eql_f rfl rfl (by omega) ?_ | refine not_ rfl ?_ | refine alloc_ (fun u => ?_) | refine build_ rfl rfl ?_ | refine store_ptr rfl rfl (by decide) rfl rfl (Nat.le_of_ble_eq_true rfl) rfl ?_)
          refine w_loop ?_
          unfold b45_0 r45_5 r45_6 r45_7 r45_8 r45_13 r45_14 r45_15 r45_16 r45_17 r45_18
          repeat' (first | refine len_sl rfl lenE ?_ | refine w_seq ?_ | refine w_ops ?_ | refine st_nil ?_ | refine th_n ?_ | refine w_block ?_ | refine w_skip ?_ | refine w_true rfl ?_ | refine mv_c rfl ?_ | refine lss_t rfl rfl (by omega) ?_ | refine own0_ (fun u => ?_))
          refine vals_loop l hlen 0 (.inl rfl) _ _ _ _ _ _ _ _ l 0 [] _ rfl (by omega) (by simp) (by rfl) (by rfl) (by rfl) (by rfl) (by rfl) (by rfl) (by rfl) (by rfl) (by rfl) (by rfl) (by rfl) (by rfl) (by rfl) (by rfl) ?_
          intro s' v t7 t8 b8 t0 t1 t25 t26 t6 t4 b6 b4
          rw [List.nil_append, mv0] at t8 b8
          rw [← put_same t7, ← put_same t8, ← put_same t0, ← put_same t1, ← put_same t25, ← put_same t26, ← put_same t6, ← put_same t4, ← box_same b8, ← box_same b6, ← box_same b4]
          repeat' (first | refine call1 rfl c2 ?_ | refine call1 rfl c4 ?_ | refine w_seq ?_ | refine w_ops ?_ | refine st_nil ?_ | refine th_n ?_ | refine bk_n ?_ | refine bk_x ?_ | refine w_skip ?_ | refine w_false rfl ?_ | refine mv_c rfl ?_ | refine not_ rfl ?_ | refine add_in rfl rfl (by omega) ?_ | refine load_ptr rfl (by decide) rfl (Nat.le_of_ble_eq_true rfl) rfl ?_ | refine store_ptr rfl rfl (by decide) rfl rfl (Nat.le_of_ble_eq_true rfl) rfl ?_ | refine fad_ptr rfl rfl rfl ?_ | refine iaA_ptr rfl rfl rfl (by omega) rfl ?_ | refine ext_ rfl rfl ?_ | refine w_fz_osl rfl rfl rfl (fun u => ?_))
          refine w_loop ?_
          repeat' (first | refine w_seq ?_ | refine w_ops ?_ | refine st_nil ?_ | refine th_n ?_ | refine th_x ?_ | refine bk_x ?_ | refine w_exit ?_ | refine w_ret ?_ | refine w_false rfl ?_ | refine mv_c rfl ?_ | refine lss_f rfl rfl (by omega) ?_ | refine load_ptr rfl (by decide) rfl (Nat.le_of_ble_eq_true rfl) rfl ?_ | refine store_ptr rfl rfl (by decide) rfl rfl (Nat.le_of_ble_eq_true rfl) rfl ?_)
          exact fin_r (rv_cell rfl rfl rfl rfl (rv_t rfl rv_nil)) rfl
      · rw [if_neg f0] at c4
        rw [show ofC m l = (zeroC, false) by unfold ofC; rw [if_neg (fun h => f0 h.2.2.1)]]
        repeat' (first | refine call1 rfl c1 ?_ | refine len_sl rfl lenE ?_ | refine w_seq ?_ | refine w_ops ?_ | refine st_nil ?_ | refine th_n ?_ | refine w_block ?_ | refine w_skip ?_ | refine w_false rfl ?_ | refine g_yes rfl ?_ | refine mv_c rfl ?_ | refine pick_f rfl rfl ?_ | refine eql_f rfl rfl (by omega) ?_ | refine not_ rfl ?_ | refine alloc_ (fun u => ?_) | refine build_ rfl rfl ?_ | refine store_ptr rfl rfl (by decide) rfl rfl (Nat.le_of_ble_eq_true rfl) rfl ?_)
        refine w_loop ?_
        unfold b45_0 r45_5 r45_6 r45_7 r45_8 r45_13 r45_14 r45_15 r45_16 r45_17 r45_18
        repeat' (first | refine len_sl rfl lenE ?_ | refine w_seq ?_ | refine w_ops ?_ | refine st_nil ?_ | refine th_n ?_ | refine w_block ?_ | refine w_skip ?_ | refine w_true rfl ?_ | refine mv_c rfl ?_ | refine lss_t rfl rfl (by omega) ?_ | refine own0_ (fun u => ?_))
        refine vals_loop l hlen 0 (.inl rfl) _ _ _ _ _ _ _ _ l 0 [] _ rfl (by omega) (by simp) (by rfl) (by rfl) (by rfl) (by rfl) (by rfl) (by rfl) (by rfl) (by rfl) (by rfl) (by rfl) (by rfl) (by rfl) (by rfl) (by rfl) ?_
        intro s' v t7 t8 b8 t0 t1 t25 t26 t6 t4 b6 b4
        rw [List.nil_append, mv0] at t8 b8
        rw [← put_same t7, ← put_same t8, ← put_same t0, ← put_same t1, ← put_same t25, ← put_same t26, ← put_same t6, ← put_same t4, ← box_same b8, ← box_same b6, ← box_same b4]
        repeat' (first | refine call1 rfl c2 ?_ | refine call1 rfl c4 ?_ | refine w_seq ?_ | refine w_ops ?_ | refine st_nil ?_ | refine th_n ?_ | refine th_r ?_ | refine bk_r ?_ | refine bk_x ?_ | refine w_ret ?_ | refine w_true rfl ?_ | refine mv_c rfl ?_ | refine not_ rfl ?_ | refine build_ rfl rfl ?_ | refine load_ptr rfl (by decide) rfl (Nat.le_of_ble_eq_true rfl) rfl ?_ | refine store_ptr rfl rfl (by decide) rfl rfl (Nat.le_of_ble_eq_true rfl) rfl ?_ | refine fad_ptr rfl rfl rfl ?_ | refine iaA_ptr rfl rfl rfl (by omega) rfl ?_ | refine ext_ rfl rfl ?_ | refine w_fz_osl rfl rfl rfl (fun u => ?_))
        exact fin_r (rv_cell rfl rfl rfl rfl (rv_t rfl rv_nil)) rfl
  · rw [decide_eq_false hm] at c1
    rw [show ofC m l = (zeroC, false) by unfold ofC; rw [if_neg (fun h => hm h.1)]]
    repeat' (first | refine call1 rfl c1 ?_ | refine len_sl rfl (List.length_map _) ?_ | refine w_seq ?_ | refine w_ops ?_ | refine st_nil ?_ | refine th_n ?_ | refine th_r ?_ | refine w_ret ?_ | refine w_true rfl ?_ | refine g_no rfl ?_ | refine mv_c rfl ?_ | refine pick_t rfl rfl ?_ | refine not_ rfl ?_ | refine alloc_ (fun u => ?_) | refine build_ rfl rfl ?_ | refine store_ptr rfl rfl (by decide) rfl rfl (Nat.le_of_ble_eq_true rfl) rfl ?_)
    exact fin_r (rv_cell rfl rfl rfl rfl (rv_t rfl rv_nil)) rfl
end Go.Proofs.Ytcmejdkjfekoeaa
namespace Go.Proofs.Ytcmejdkjfekoeaa
open Go.Pl Go.Bag
set_option maxHeartbeats 16000000
set_option maxRecDepth 100000
theorem ofL_52 : ofL [5, -2] = [(-2, 1), (5, 1)] := (ofL_ext (by simp [asc]) (by intro q hq; simp at hq; rcases hq with rfl | rfl <;> decide) (fun v => by simp only [cnt, num_cons, num_nil]; omega)).symm
theorem C_wakes9 : PCallG Try.prog 43 [] (.c (.bool true)) [] := by
  refine pcallF Try.func43 c43 rfl ?_
  have i1 : inC 1000000 ⟨2, 3, 0, [(-2, 1), (5, 1)], []⟩ := ⟨by decide, by decide, by decide, by intro q hq; simp at hq; rcases hq with rfl | rfl <;> decide, fun q hq => by simp at hq, by decide, by decide⟩
  have i2 : inC 1000000 ⟨4, 6, 0, [(-2, 2), (5, 2)], []⟩ := ⟨by decide, by decide, by decide, by intro q hq; simp at hq; rcases hq with rfl | rfl <;> decide, fun q hq => by simp at hq, by decide, by decide⟩
  have g1 : goodC 1 ⟨2, 3, 0, [(-2, 1), (5, 1)], []⟩ = true := by decide
  have g2 : goodC 1 ⟨4, 6, 0, [(-2, 2), (5, 2)], []⟩ = true := by decide
  have g3 : goodC 2 ⟨4, 6, 0, [(-2, 2), (5, 2)], []⟩ = false := by decide
  have hm : merge [] [(-2, 1), (5, 1)] [(-2, 1), (5, 1)] = [(-2, 2), (5, 2)] := by simp [merge, moreL]
  have hj : join [(-2, 1), (5, 1)] [(-2, 1), (5, 1)] = ([(-2, 2), (5, 2)], true) := by unfold join; rw [if_pos (by decide), hm]
  have c1 : PCallG Try.prog 45 [.c (.int .i64 1), .c (encRows [⟨⟨0, 0, 0, 0⟩, 5, 1⟩, ⟨⟨0, 0, 0, 0⟩, -2, 1⟩])] (.c (.tup [encCell ⟨2, 3, 0, [(-2, 1), (5, 1)], []⟩, .bool true])) [] := by
    have := C_cOf 1 [⟨⟨0, 0, 0, 0⟩, 5, 1⟩, ⟨⟨0, 0, 0, 0⟩, -2, 1⟩] (by decide) (by intro r hr; simp at hr; rcases hr with rfl | rfl <;> exact ⟨by decide, by decide⟩)
    have e : ofC 1 [⟨⟨0, 0, 0, 0⟩, 5, 1⟩, ⟨⟨0, 0, 0, 0⟩, -2, 1⟩] = (⟨2, 3, 0, [(-2, 1), (5, 1)], []⟩, true) := by
      unfold ofC
      rw [if_pos ⟨by decide, by simp, by decide, fun h => by cases h⟩]
      simp [ofL_52, sumI]
    rw [e] at this; exact this
  have c2 : PCallG Try.prog 49 [.c (.int .i64 1), .c (.agg (encP ⟨3, 0, 0, 0⟩)), .c (encCell ⟨2, 3, 0, [(-2, 1), (5, 1)], []⟩)] (.c (encLine ⟨3, 0, 0, 0, 2, 3, 0, -2, 0, 5, 0⟩)) [] := C_cLine 1 ⟨3, 0, 0, 0⟩ _ i1
  have c3 : PCallG Try.prog 51 [.c (.int .i64 1), .c (encCell ⟨2, 3, 0, [(-2, 1), (5, 1)], []⟩), .c (encCell ⟨2, 3, 0, [(-2, 1), (5, 1)], []⟩)] (.c (.tup [encCell ⟨4, 6, 0, [(-2, 2), (5, 2)], []⟩, .bool true])) [] := by
    have := C_cJoin 1 _ _ i1 i1
    have e : joinC 1 ⟨2, 3, 0, [(-2, 1), (5, 1)], []⟩ ⟨2, 3, 0, [(-2, 1), (5, 1)], []⟩ = (⟨4, 6, 0, [(-2, 2), (5, 2)], []⟩, true) := by
      unfold joinC
      rw [if_pos ⟨g1, g1, by decide, by decide, fun h => by cases h⟩]
      simp [hj]
    rw [e] at this; exact this
  have c4 : PCallG Try.prog 47 [.c (.int .i64 1), .c (encCell ⟨4, 6, 0, [(-2, 2), (5, 2)], []⟩)] (.c (.bool true)) [] := by have := C_cGood 1 _ i2; rw [g2] at this; exact this
  have c5 : PCallG Try.prog 47 [.c (.int .i64 2), .c (encCell ⟨4, 6, 0, [(-2, 2), (5, 2)], []⟩)] (.c (.bool false)) [] := by have := C_cGood 2 _ i2; rw [g3] at this; exact this
  have c6 : PCallG Try.prog 53 [.c (encCell ⟨2, 3, 0, [(-2, 1), (5, 1)], []⟩), .c (encCell ⟨2, 3, 0, [(-2, 1), (5, 1)], []⟩)] (.c (.bool true)) [] := C_cSame _ _ (by decide) (by decide)
  have c7 : PCallG Try.prog 53 [.c (encCell ⟨2, 3, 0, [(-2, 1), (5, 1)], []⟩), .c (encCell ⟨4, 6, 0, [(-2, 2), (5, 2)], []⟩)] (.c (.bool false)) [] := C_cSame _ _ (by decide) (by decide)
  have c8 : PCallG Try.prog 55 [.c (.int .i64 5), .c (.int .i64 0), .c (encLine ⟨0, 0, 0, 0, 2, 3, 0, 0, 0, 0, 0⟩), .c (encLine ⟨0, 0, 0, 0, 3, 4, 0, 0, 0, 0, 0⟩)] (.c (.int .i64 (-1))) [] := C_Ahead 5 0 _ _ ⟨by decide, by decide, by decide, by decide, by decide, by decide, by decide⟩ ⟨by decide, by decide, by decide, by decide, by decide, by decide, by decide⟩
  have c9 : PCallG Try.prog 55 [.c (.int .i64 2), .c (.int .i64 0), .c (encLine ⟨0, 0, 0, 0, 2, 3, 0, 0, 0, 0, 0⟩), .c (encLine ⟨0, 0, 0, 0, 3, 4, 0, 0, 0, 0, 0⟩)] (.c (.int .i64 1)) [] := C_Ahead 2 0 _ _ ⟨by decide, by decide, by decide, by decide, by decide, by decide, by decide⟩ ⟨by decide, by decide, by decide, by decide, by decide, by decide, by decide⟩
  unfold p43 r43_0 r43_1 r43_2 r43_3 r43_4 r43_5 r43_6 r43_7
  repeat' (first | refine call2 rfl rfl c1 ?_ | refine call3 rfl rfl rfl c2 ?_ | refine call3 rfl rfl rfl c3 ?_ | refine call2 rfl rfl c4 ?_ | refine call2 rfl rfl c5 ?_ | refine call2 rfl rfl c6 ?_ | refine call2 rfl rfl c7 ?_ | refine call4 rfl rfl rfl rfl c8 ?_ | refine call4 rfl rfl rfl rfl c9 ?_ | refine w_seq ?_ | refine w_ops ?_ | refine st_nil ?_ | refine th_n ?_ | refine w_ret ?_ | refine g_yes rfl ?_ | refine mv_c rfl ?_ | refine pick_t rfl rfl ?_ | refine eql_t rfl rfl (by omega) ?_ | refine eqd_ rfl rfl ?_ | refine not_ rfl ?_ | refine alloc_ (fun u => ?_) | refine build_ rfl rfl ?_ | refine bsl_ rfl rfl ?_ | refine load_ptr rfl (by decide) rfl (Nat.le_of_ble_eq_true rfl) rfl ?_ | refine store_ptr rfl rfl (by decide) rfl rfl (Nat.le_of_ble_eq_true rfl) rfl ?_ | refine fad_ptr rfl rfl rfl ?_ | refine iaA_ptr rfl rfl rfl (by omega) rfl ?_ | refine ext_ rfl rfl ?_ | refine eqs_t rfl rfl rfl ?_)
  exact fin_r rfl rfl
end Go.Proofs.Ytcmejdkjfekoeaa
namespace Go.Proofs.Ytcmejdkjfekoeaa
open Go.Pl Go.Bag
set_option maxHeartbeats 8000000
theorem ok_i64 {c : CV} (h : LF.Ok (.int .i64) c) : ∃ a, c = .int .i64 a ∧ I64 a := by
  cases h with
  | int _ a hw => exact ⟨a, rfl, by simpa [Lit.wf, IntKind.min, IntKind.max, IntKind.signed, IntKind.bits, I64] using hw⟩
end Go.Proofs.Ytcmejdkjfekoeaa
namespace Go.Proofs.Ytcmejdkjfekoeaa
open Go.Pl Go.Bag
theorem ok_u8 {c : CV} (h : LF.Ok (.int .u8) c) : ∃ a, c = .int .u8 a ∧ 0 ≤ a ∧ a ≤ 255 := by
  cases h with
  | int _ a hw => exact ⟨a, rfl, by simpa [Lit.wf, IntKind.min, IntKind.max, IntKind.signed, IntKind.bits] using hw⟩
theorem ok_bool {c : CV} (h : LF.Ok .bool c) : ∃ b, c = .bool b := by
  cases h with
  | bool b => exact ⟨b, rfl⟩
end Go.Proofs.Ytcmejdkjfekoeaa
namespace Go.Proofs.Ytcmejdkjfekoeaa
open Go.Pl Go.Bag
set_option maxHeartbeats 16000000
set_option maxRecDepth 100000
end Go.Proofs.Ytcmejdkjfekoeaa
namespace Go.Proofs.Ytcmejdkjfekoeaa
open Go.Pl Go.Bag
set_option maxHeartbeats 16000000
set_option maxRecDepth 100000
def manyI (two : Bool) : Int := if two then 2 else 1
theorem C_many (two : Bool) : PCallG Try.prog 54 [.c (.bool two)] (.c (.int .i64 (manyI two))) [] := by
  refine pcallF Try.func54 c54 rfl ?_
  unfold p54 r54_0 r54_1 r54_2 r54_3
  cases two <;>
  repeat' (first | refine w_seq ?_ | refine w_ops ?_ | refine st_nil ?_ | refine th_n ?_ | refine th_r ?_ | refine w_skip ?_ | refine w_ret ?_ | refine w_true rfl ?_ | refine w_false rfl ?_ | refine mv_c rfl ?_)
  all_goals exact fin_r rfl rfl
def fitsC (m : Int) (l : List RowS) : Prop := in64 (sumI (l.map (·.m0))) ∧ (m = 2 → in64 (sumI (l.map (·.m1))))
instance (m : Int) (l : List RowS) : Decidable (fitsC m l) := by unfold fitsC; infer_instance
theorem ofC_ok {m : Int} (hm : 1 ≤ m ∧ m ≤ 2) {l : List RowS} : (ofC m l).2 = true ↔ l ≠ [] ∧ fitsC m l := by
  unfold ofC fitsC
  by_cases h : (1 ≤ m ∧ m ≤ 2) ∧ l ≠ [] ∧ in64 (sumI (l.map (·.m0))) ∧ (m = 2 → in64 (sumI (l.map (·.m1))))
  · rw [if_pos h]; exact ⟨fun _ => h.2, fun _ => rfl⟩
  · rw [if_neg h]; exact ⟨fun h' => (by cases h'), fun h' => absurd ⟨hm, h'⟩ h⟩
theorem ofC_eq {m : Int} {l : List RowS} (h : (ofC m l).2 = true) : ofC m l = (⟨l.length, sumI (l.map (·.m0)), if m = 2 then sumI (l.map (·.m1)) else 0, ofL (l.map (·.m0)), if m = 2 then ofL (l.map (·.m1)) else []⟩, true) := by
  unfold ofC at h ⊢
  split
  · rfl
  · rename_i h'; rw [if_neg h'] at h; cases h
theorem ofC_no {m : Int} {l : List RowS} (h : (ofC m l).2 = false) : ofC m l = (zeroC, false) := by
  unfold ofC at h ⊢
  split
  · rename_i h'; rw [if_pos h'] at h; cases h
  · rfl
theorem inC_zero9 : inC 1000 zeroC := ⟨by decide, by decide, by decide, fun q hq => by simp [zeroC] at hq, fun q hq => by simp [zeroC] at hq, by decide, by decide⟩
theorem inC_up {a b : Nat} (h : a ≤ b) {c : Cell} (hc : inC a c) : inC b c := ⟨hc.1, hc.2.1, hc.2.2.1, hc.2.2.2.1, hc.2.2.2.2.1, by have := hc.2.2.2.2.2.1; omega, by have := hc.2.2.2.2.2.2; omega⟩
theorem inC_ofC {m : Int} {l : List RowS} (hl : l.length ≤ 1000) (hr : ∀ r ∈ l, inR r) : inC 1000 (ofC m l).1 := by
  cases h : (ofC m l).2 with
  | false => rw [ofC_no h]; exact inC_zero9
  | true =>
    have hm : 1 ≤ m ∧ m ≤ 2 := by
      unfold ofC at h
      split at h
      · rename_i h'; exact h'.1
      · cases h
    obtain ⟨_, f0, f1⟩ := (ofC_ok hm).mp h
    have r0 : ∀ a ∈ l.map (·.m0), I64 a := fun a ha => by obtain ⟨r, hr', rfl⟩ := List.mem_map.mp ha; exact (hr r hr').1
    have r1 : ∀ a ∈ l.map (·.m1), I64 a := fun a ha => by obtain ⟨r, hr', rfl⟩ := List.mem_map.mp ha; exact (hr r hr').2
    have k0 := (ofL_facts (l.map (·.m0))).2.2.2.2
    have k1 := (ofL_facts (l.map (·.m1))).2.2.2.2
    simp only [List.length_map] at k0 k1
    rw [ofC_eq h]
    by_cases hm2 : m = 2
    · simp only [if_pos hm2]
      exact ⟨by simp only [in64]; omega, f0, f1 hm2, ranged_ofL r0 (by simp; omega), ranged_ofL r1 (by simp; omega), (by show (ofL (l.map (·.m0))).length ≤ 1000; omega), (by show (ofL (l.map (·.m1))).length ≤ 1000; omega)⟩
    · simp only [if_neg hm2]
      exact ⟨by simp only [in64]; omega, f0, (by show in64 0; decide), ranged_ofL r0 (by simp; omega), (fun q hq => by simp at hq), (by show (ofL (l.map (·.m0))).length ≤ 1000; omega), (by show ([] : List Run).length ≤ 1000; simp)⟩
theorem good_ofC {m : Int} {l : List RowS} (hl : l.length ≤ 1000) (h : (ofC m l).2 = true) : goodC m (ofC m l).1 = true := by
  have hm : 1 ≤ m ∧ m ≤ 2 := by
    unfold ofC at h
    split at h
    · rename_i h'; exact h'.1
    · cases h
  obtain ⟨hne, f0, f1⟩ := (ofC_ok hm).mp h
  have hpos : 0 < l.length := by
    cases l with
    | nil => exact absurd rfl hne
    | cons _ _ => simp
  have gv : ∀ v : List Int, v.length = l.length → gM (ofL v) (sumI v) l.length = true := fun v hv => by
    obtain ⟨_, _, _, h4, _⟩ := ofL_facts v
    exact gM_iff.mpr ⟨good_ofL (by omega), wsum_ofL v, by rw [h4, hv]⟩
  rw [ofC_eq h]
  refine goodC_iff.mpr ⟨hm, ⟨by simp; omega, by simp; omega⟩, gv _ (by simp), ?_⟩
  by_cases hm2 : m = 2
  · rw [if_pos hm2]; simp only [if_pos hm2]; exact gv _ (by simp)
  · rw [if_neg hm2]; simp [hm2]
theorem ok_rows {c : CV} (h : LF.Ok (.sl [.int .u8, .int .u8, .int .u8, .int .u8, .int .i64, .int .i64]) c) : ∃ l, c = encRows l ∧ (∀ r ∈ l, inR r) ∧ l.length ≤ 9223372036854775807 := by
  cases h with
  | sl _ es hn hl hh =>
    have : ∀ e ∈ es, ∃ r : RowS, e = encRow r ∧ inR r := fun e he => by
      have h1 := hl e he
      match e, h1, hh e he with
      | [x0, x1, x2, x3, x4, x5], _, hh =>
        obtain ⟨a0, rfl, _⟩ := ok_u8 (hh 0 (by simp) (by simp))
        obtain ⟨a1, rfl, _⟩ := ok_u8 (hh 1 (by simp) (by simp))
        obtain ⟨a2, rfl, _⟩ := ok_u8 (hh 2 (by simp) (by simp))
        obtain ⟨a3, rfl, _⟩ := ok_u8 (hh 3 (by simp) (by simp))
        obtain ⟨a4, rfl, i4⟩ := ok_i64 (hh 4 (by simp) (by simp))
        obtain ⟨a5, rfl, i5⟩ := ok_i64 (hh 5 (by simp) (by simp))
        exact ⟨⟨⟨a0, a1, a2, a3⟩, a4, a5⟩, rfl, i4, i5⟩
    clear hl hh
    have : ∃ l : List RowS, es = l.map encRow ∧ ∀ r ∈ l, inR r := by
      induction es with
      | nil => exact ⟨[], rfl, fun a ha => by simp at ha⟩
      | cons e es ih =>
        obtain ⟨a, rfl, ha⟩ := this e (by simp)
        obtain ⟨l, rfl, hl⟩ := ih (by simp at hn; omega) (fun q hq => this q (by simp [hq]))
        exact ⟨a :: l, rfl, fun b hb => by
          rcases List.mem_cons.mp hb with rfl | hb
          · exact ha
          · exact hl b hb⟩
    obtain ⟨l, rfl, hl⟩ := this
    exact ⟨l, rfl, hl, by simpa [maxLen] using hn⟩
end Go.Proofs.Ytcmejdkjfekoeaa
namespace Go.Proofs.Ytcmejdkjfekoeaa
open Go.Pl Go.Bag
set_option maxHeartbeats 16000000
set_option maxRecDepth 100000
def rcV (p : Cell × Bool) : CV := .agg [.int .i64 p.1.n, .int .i64 p.1.s0, .int .i64 p.1.s1, encL p.1.b0, encL p.1.b1, .bool p.2]
def madeC (m n : Int) (b0 b1 : List Run) : Cell × Bool :=
  if I64 (wsum b0) ∧ (m = 2 → I64 (wsum b1)) ∧ goodC m ⟨n, wsum b0, if m = 2 then wsum b1 else 0, b0, b1⟩ = true then (⟨n, wsum b0, if m = 2 then wsum b1 else 0, b0, b1⟩, true) else (zeroC, false)
theorem wide_good {b : List Run} (hl : b.length ≤ 999999) (hr : ranged b) (hg : good b = true) : PCallG Try.prog 92 [.c (encL b)] (.c (.agg (enc3 (of3 (wsum b))))) [] ∧ PCallG Try.prog 91 [.c (.agg (enc3 (of3 (wsum b))))] (.c (if I64 (wsum b) then .tup [.int .i64 (wsum b), .bool true] else .tup [.int .i64 0, .bool false])) [] := by
  have h1 := C_rWide b (by omega) hr
  obtain ⟨g1, g2, g3⟩ := good_iff.mp hg
  have h0 : cap = 1099511627776 := rfl
  have h2 := C_rBack _ (wideS_in b (of3 0) (in3_of (by decide)))
  rw [wideS_of b 0 g2 hr (by simp [absI]; omega), Int.zero_add] at h1 h2
  refine ⟨h1, ?_⟩
  rw [back3_of] at h2
  by_cases h : I64 (wsum b)
  · rw [if_pos h] at h2 ⊢; exact h2
  · rw [if_neg h] at h2 ⊢; exact h2
theorem C_made (m n : Int) (b0 b1 : List Run) (hm : 1 ≤ m ∧ m ≤ 2) (hn : I64 n) (hl0 : b0.length ≤ 999999) (hl1 : b1.length ≤ 999999) (hr0 : ranged b0) (hr1 : ranged b1) (g0 : good b0 = true) (g1 : m = 2 → good b1 = true) :
    PCallG Try.prog 93 [.c (.int .i64 m), .c (.int .i64 n), .c (.agg [encL b0, encL b1])] (.c (rcV (madeC m n b0 b1))) [] := by
  obtain ⟨c1, c2⟩ := wide_good hl0 hr0 g0
  refine pcallF Try.func93 c93 rfl ?_
  unfold p93 r93_0 r93_1 r93_2 r93_9 r93_10 r93_11
  repeat' (first | refine w_seq ?_ | refine w_ops ?_ | refine st_nil ?_ | refine th_n ?_ | refine w_block ?_ | refine mv_c rfl ?_ | refine alloc_ (fun u => ?_) | refine box_ rfl rfl rfl (fun u => ?_) | refine build_ rfl rfl ?_ | refine load_ptr rfl (by decide) rfl (Nat.le_of_ble_eq_true rfl) rfl ?_ | refine store_ptr rfl rfl (by decide) rfl rfl (Nat.le_of_ble_eq_true rfl) rfl ?_)
  refine w_loop ?_
  unfold b93_0 r93_3 r93_4 r93_5 r93_6 r93_7 r93_8
  by_cases f0 : I64 (wsum b0)
  · rw [if_pos f0] at c2
    by_cases hm2 : m = 2
    · obtain ⟨c3, c4⟩ := wide_good hl1 hr1 (g1 hm2)
      by_cases f1 : I64 (wsum b1)
      · rw [if_pos f1] at c4
        have c5 := C_rcGood m ⟨n, wsum b0, wsum b1, b0, b1⟩ ⟨hn, f0, f1, hr0, hr1, hl0, hl1⟩
        unfold encCell encC at c5
        have e0 : madeC m n b0 b1 = if goodC m ⟨n, wsum b0, wsum b1, b0, b1⟩ = true then (⟨n, wsum b0, wsum b1, b0, b1⟩, true) else (zeroC, false) := by
          unfold madeC; rw [if_pos hm2]
          by_cases hg : goodC m ⟨n, wsum b0, wsum b1, b0, b1⟩ = true
          · rw [if_pos hg, if_pos ⟨f0, fun _ => f1, hg⟩]
          · rw [if_neg hg, if_neg (fun h => hg h.2.2)]
        rw [e0]
        generalize goodC m ⟨n, wsum b0, wsum b1, b0, b1⟩ = g at c5
        generalize wsum b0 = w0 at *
        generalize wsum b1 = w1 at *
        repeat' (first | refine call1 rfl c1 ?_ | refine call1 rfl c2 ?_ | refine w_seq ?_ | refine w_ops ?_ | refine st_nil ?_ | refine th_n ?_ | refine bk_n ?_ | refine w_block ?_ | refine w_skip ?_ | refine w_true rfl ?_ | refine w_false rfl ?_ | refine mv_c rfl ?_ | refine lss_t rfl rfl (by omega) ?_ | refine not_ rfl ?_ | refine add_in rfl rfl (by omega) ?_ | refine load_ptr rfl (by decide) rfl (Nat.le_of_ble_eq_true rfl) rfl ?_ | refine store_ptr rfl rfl (by decide) rfl rfl (Nat.le_of_ble_eq_true rfl) rfl ?_ | refine fad_ptr rfl rfl rfl ?_ | refine iaA_ptr rfl rfl rfl (by omega) rfl ?_ | refine ext_ rfl rfl ?_)
        refine w_loop ?_
        repeat' (first | refine call1 rfl c3 ?_ | refine call1 rfl c4 ?_ | refine w_seq ?_ | refine w_ops ?_ | refine st_nil ?_ | refine th_n ?_ | refine bk_n ?_ | refine w_block ?_ | refine w_skip ?_ | refine w_true rfl ?_ | refine w_false rfl ?_ | refine mv_c rfl ?_ | refine lss_t rfl rfl (by omega) ?_ | refine not_ rfl ?_ | refine add_in rfl rfl (by omega) ?_ | refine load_ptr rfl (by decide) rfl (Nat.le_of_ble_eq_true rfl) rfl ?_ | refine store_ptr rfl rfl (by decide) rfl rfl (Nat.le_of_ble_eq_true rfl) rfl ?_ | refine fad_ptr rfl rfl rfl ?_ | refine iaA_ptr rfl rfl rfl (by omega) rfl ?_ | refine ext_ rfl rfl ?_)
        refine w_loop ?_
        cases g <;>
        repeat' (first | refine call2 rfl rfl c5 ?_ | refine w_seq ?_ | refine w_ops ?_ | refine st_nil ?_ | refine th_n ?_ | refine th_x ?_ | refine th_r ?_ | refine bk_x ?_ | refine w_skip ?_ | refine w_exit ?_ | refine w_ret ?_ | refine w_true rfl ?_ | refine w_false rfl ?_ | refine mv_c rfl ?_ | refine lss_f rfl rfl (by omega) ?_ | refine not_ rfl ?_ | refine build_ rfl rfl ?_ | refine load_ptr rfl (by decide) rfl (Nat.le_of_ble_eq_true rfl) rfl ?_ | refine store_ptr rfl rfl (by decide) rfl rfl (Nat.le_of_ble_eq_true rfl) rfl ?_)
        all_goals exact fin_r (rv_cell rfl rfl rfl rfl rv_nil) rfl
      · rw [if_neg f1] at c4
        rw [show madeC m n b0 b1 = (zeroC, false) by unfold madeC; rw [if_neg (fun h => f1 (h.2.1 hm2))]]
        repeat' (first | refine call1 rfl c1 ?_ | refine call1 rfl c2 ?_ | refine w_seq ?_ | refine w_ops ?_ | refine st_nil ?_ | refine th_n ?_ | refine bk_n ?_ | refine w_block ?_ | refine w_skip ?_ | refine w_true rfl ?_ | refine w_false rfl ?_ | refine mv_c rfl ?_ | refine lss_t rfl rfl (by omega) ?_ | refine not_ rfl ?_ | refine add_in rfl rfl (by omega) ?_ | refine load_ptr rfl (by decide) rfl (Nat.le_of_ble_eq_true rfl) rfl ?_ | refine store_ptr rfl rfl (by decide) rfl rfl (Nat.le_of_ble_eq_true rfl) rfl ?_ | refine fad_ptr rfl rfl rfl ?_ | refine iaA_ptr rfl rfl rfl (by omega) rfl ?_ | refine ext_ rfl rfl ?_)
        refine w_loop ?_
        repeat' (first | refine call1 rfl c3 ?_ | refine call1 rfl c4 ?_ | refine w_seq ?_ | refine w_ops ?_ | refine st_nil ?_ | refine th_n ?_ | refine th_r ?_ | refine bk_r ?_ | refine w_block ?_ | refine w_skip ?_ | refine w_ret ?_ | refine w_true rfl ?_ | refine mv_c rfl ?_ | refine lss_t rfl rfl (by omega) ?_ | refine not_ rfl ?_ | refine build_ rfl rfl ?_ | refine load_ptr rfl (by decide) rfl (Nat.le_of_ble_eq_true rfl) rfl ?_ | refine store_ptr rfl rfl (by decide) rfl rfl (Nat.le_of_ble_eq_true rfl) rfl ?_ | refine iaA_ptr rfl rfl rfl (by omega) rfl ?_ | refine ext_ rfl rfl ?_)
        exact fin_r (rv_cell rfl rfl rfl rfl rv_nil) rfl
    · have c5 := C_rcGood m ⟨n, wsum b0, 0, b0, b1⟩ ⟨hn, f0, (by show in64 0; decide), hr0, hr1, hl0, hl1⟩
      unfold encCell encC at c5
      have e0 : madeC m n b0 b1 = if goodC m ⟨n, wsum b0, 0, b0, b1⟩ = true then (⟨n, wsum b0, 0, b0, b1⟩, true) else (zeroC, false) := by
        unfold madeC; rw [if_neg hm2]
        by_cases hg : goodC m ⟨n, wsum b0, 0, b0, b1⟩ = true
        · rw [if_pos hg, if_pos ⟨f0, fun h => absurd h hm2, hg⟩]
        · rw [if_neg hg, if_neg (fun h => hg h.2.2)]
      rw [e0]
      generalize goodC m ⟨n, wsum b0, 0, b0, b1⟩ = g at c5
      generalize wsum b0 = w0 at *
      repeat' (first | refine call1 rfl c1 ?_ | refine call1 rfl c2 ?_ | refine w_seq ?_ | refine w_ops ?_ | refine st_nil ?_ | refine th_n ?_ | refine bk_n ?_ | refine w_block ?_ | refine w_skip ?_ | refine w_true rfl ?_ | refine w_false rfl ?_ | refine mv_c rfl ?_ | refine lss_t rfl rfl (by omega) ?_ | refine not_ rfl ?_ | refine add_in rfl rfl (by omega) ?_ | refine load_ptr rfl (by decide) rfl (Nat.le_of_ble_eq_true rfl) rfl ?_ | refine store_ptr rfl rfl (by decide) rfl rfl (Nat.le_of_ble_eq_true rfl) rfl ?_ | refine fad_ptr rfl rfl rfl ?_ | refine iaA_ptr rfl rfl rfl (by omega) rfl ?_ | refine ext_ rfl rfl ?_)
      refine w_loop ?_
      cases g <;>
      repeat' (first | refine call2 rfl rfl c5 ?_ | refine w_seq ?_ | refine w_ops ?_ | refine st_nil ?_ | refine th_n ?_ | refine th_x ?_ | refine th_r ?_ | refine bk_x ?_ | refine w_skip ?_ | refine w_exit ?_ | refine w_ret ?_ | refine w_true rfl ?_ | refine w_false rfl ?_ | refine mv_c rfl ?_ | refine lss_f rfl rfl (by omega) ?_ | refine not_ rfl ?_ | refine build_ rfl rfl ?_ | refine load_ptr rfl (by decide) rfl (Nat.le_of_ble_eq_true rfl) rfl ?_ | refine store_ptr rfl rfl (by decide) rfl rfl (Nat.le_of_ble_eq_true rfl) rfl ?_)
      all_goals exact fin_r (rv_cell rfl rfl rfl rfl rv_nil) rfl
  · rw [if_neg f0] at c2
    rw [show madeC m n b0 b1 = (zeroC, false) by unfold madeC; rw [if_neg (fun h => f0 h.1)]]
    repeat' (first | refine call1 rfl c1 ?_ | refine call1 rfl c2 ?_ | refine w_seq ?_ | refine w_ops ?_ | refine st_nil ?_ | refine th_n ?_ | refine th_r ?_ | refine bk_r ?_ | refine w_block ?_ | refine w_skip ?_ | refine w_ret ?_ | refine w_true rfl ?_ | refine mv_c rfl ?_ | refine lss_t rfl rfl (by omega) ?_ | refine not_ rfl ?_ | refine build_ rfl rfl ?_ | refine load_ptr rfl (by decide) rfl (Nat.le_of_ble_eq_true rfl) rfl ?_ | refine store_ptr rfl rfl (by decide) rfl rfl (Nat.le_of_ble_eq_true rfl) rfl ?_ | refine iaA_ptr rfl rfl rfl (by omega) rfl ?_ | refine ext_ rfl rfl ?_)
    exact fin_r (rv_cell rfl rfl rfl rfl rv_nil) rfl
def two (b : Bool) (x y : CV) : List CV := match b with | false => [x, y] | true => [y, x]
def bi (b : Bool) : Int := if b then 1 else 0
theorem lay_rows {K : Ex → PS → Prop} (l : List RowS) (hlen : l.length ≤ 1000) (b : Bool) (y : CV) (v5 : Nat) (v0 v4 : PV) (x4 : Box) : ∀ (rest : List RowS) (k : Nat) (out : List Run) (s : PS), l.drop k = rest → k ≤ l.length → asc out → pos out → out.length ≤ k → sum out = k →
    s.t 1 = .c (encRows l) → s.t 7 = .c (.int .i64 k) → s.t 6 = .c (.int .i64 (bi b)) → s.t 5 = .ptr 5 v5 0 → s.bx 5 = ⟨v5, .var (two b (encL out) y)⟩ →
    s.t 0 = v0 → s.t 4 = v4 → s.bx 4 = x4 →
    (∀ s', s'.t 1 = .c (encRows l) → s'.t 6 = .c (.int .i64 (bi b)) → s'.t 5 = .ptr 5 v5 0 → s'.bx 5 = ⟨v5, .var (two b (encL (rofS out (rest.map (mv (bi b))))) y)⟩ → s'.t 0 = v0 → s'.t 4 = v4 → s'.bx 4 = x4 → K (.x 2) s') → wP (PCallG Try.prog) (.loop b44_1) s K := by
  intro rest
  induction rest with
  | nil =>
    intro k out s hd hk ha hp hl hs t1 t7 t6 t5 b5 t0 t4 b4 hx
    refine w_loop ?_
    have hk' := drop_end hd hk
    subst hk'
    rw [← put_same t1, ← put_same t7, ← put_same t6, ← put_same t5, ← put_same t0, ← put_same t4, ← box_same b5, ← box_same b4]
    unfold b44_1 r44_8 r44_9 r44_10
    repeat' (first | refine len_sl rfl (List.length_map _) ?_ | refine w_seq ?_ | refine w_ops ?_ | refine st_nil ?_ | refine th_n ?_ | refine th_x ?_ | refine w_exit ?_ | refine w_false rfl ?_ | refine mv_c rfl ?_ | refine lss_f rfl rfl (by omega) ?_)
    exact hx _ rfl rfl rfl rfl rfl rfl rfl
  | cons r rest ih =>
    intro k out s hd hk ha hp hl hs t1 t7 t6 t5 b5 t0 t4 b4 hx
    refine w_loop ?_
    have he := get_row hd
    have hkl := drop_len hd
    have hn := drop_next hd
    cases b with
    | false =>
      simp only [show bi false = 0 from rfl] at t6 hx ih
      have hM := C_Lay out (mv 0 r) 1 (by omega) fun q hq => by have := le_sum hp q hq; omega
      obtain ⟨f1, f2, f3, f4, f5⟩ := lay_facts out (mv 0 r) 1
      obtain ⟨g1, g2⟩ := lay_pos (v := mv 0 r) (n := 1) ha hp (by decide) (by have := cnt_nonneg (mv 0 r) hp; omega)
      rw [← put_same t1, ← put_same t7, ← put_same t6, ← put_same t5, ← put_same t0, ← put_same t4, ← box_same b5, ← box_same b4]
      unfold b44_1 r44_8 r44_9 r44_10
      repeat' (first | refine len_sl rfl (List.length_map _) ?_ | refine call3 rfl rfl rfl hM ?_ | refine w_seq ?_ | refine w_ops ?_ | refine w_opsD0 rfl ?_ | refine st_nil ?_ | refine th_n ?_ | refine bk_n ?_ | refine w_block ?_ | refine w_skip ?_ | refine w_true rfl ?_ | refine mv_c rfl ?_ | refine lss_t rfl rfl (by omega) ?_ | refine add_in rfl rfl (by omega) ?_ | refine load_rp rfl (Nat.le_of_ble_eq_true rfl) rfl ?_ | refine load_ptr rfl (by decide) rfl (Nat.le_of_ble_eq_true rfl) rfl ?_ | refine store_ptr rfl rfl (by decide) rfl rfl (Nat.le_of_ble_eq_true rfl) rfl ?_ | refine fad_rp rfl (Nat.le_of_ble_eq_true rfl) rfl ?_ | refine iaA_ptr rfl rfl rfl (by omega) rfl ?_ | refine iaA_rp rfl rfl (by omega) (Nat.le_of_ble_eq_true rfl) rfl ?_ | refine iaS_c rfl rfl (by omega) (by assumption) rfl ?_)
      exact ih (k + 1) (lay out (mv 0 r) 1) _ hn (by omega) g1 g2 (by omega) (by omega) (by rfl) (by rfl) (by rfl) (by rfl) (by rfl) (by rfl) (by rfl) (by rfl) hx
    | true =>
      simp only [show bi true = 1 from rfl] at t6 hx ih
      have hM := C_Lay out (mv 1 r) 1 (by omega) fun q hq => by have := le_sum hp q hq; omega
      obtain ⟨f1, f2, f3, f4, f5⟩ := lay_facts out (mv 1 r) 1
      obtain ⟨g1, g2⟩ := lay_pos (v := mv 1 r) (n := 1) ha hp (by decide) (by have := cnt_nonneg (mv 1 r) hp; omega)
      rw [← put_same t1, ← put_same t7, ← put_same t6, ← put_same t5, ← put_same t0, ← put_same t4, ← box_same b5, ← box_same b4]
      unfold b44_1 r44_8 r44_9 r44_10
      repeat' (first | refine len_sl rfl (List.length_map _) ?_ | refine call3 rfl rfl rfl hM ?_ | refine w_seq ?_ | refine w_ops ?_ | refine w_opsD0 rfl ?_ | refine st_nil ?_ | refine th_n ?_ | refine bk_n ?_ | refine w_block ?_ | refine w_skip ?_ | refine w_true rfl ?_ | refine mv_c rfl ?_ | refine lss_t rfl rfl (by omega) ?_ | refine add_in rfl rfl (by omega) ?_ | refine load_rp rfl (Nat.le_of_ble_eq_true rfl) rfl ?_ | refine load_ptr rfl (by decide) rfl (Nat.le_of_ble_eq_true rfl) rfl ?_ | refine store_ptr rfl rfl (by decide) rfl rfl (Nat.le_of_ble_eq_true rfl) rfl ?_ | refine fad_rp rfl (Nat.le_of_ble_eq_true rfl) rfl ?_ | refine iaA_ptr rfl rfl rfl (by omega) rfl ?_ | refine iaA_rp rfl rfl (by omega) (Nat.le_of_ble_eq_true rfl) rfl ?_ | refine iaS_c rfl rfl (by omega) (by assumption) rfl ?_)
      exact ih (k + 1) (lay out (mv 1 r) 1) _ hn (by omega) g1 g2 (by omega) (by omega) (by rfl) (by rfl) (by rfl) (by rfl) (by rfl) (by rfl) (by rfl) (by rfl) hx
theorem good_vals {v : List Int} (hl : 1 ≤ v.length ∧ v.length ≤ 1000) : gM (ofL v) (sumI v) v.length = true := by
  obtain ⟨_, _, _, h4, _⟩ := ofL_facts v
  exact gM_iff.mpr ⟨good_ofL (by omega), wsum_ofL v, h4⟩
theorem C_rcOf (m : Int) (l : List RowS) (hlen : l.length ≤ 1000) (hr : ∀ r ∈ l, inR r) : PCallG Try.prog 44 [.c (.int .i64 m), .c (encRows l)] (.c (rcV (ofC m l))) [] := by
  refine pcallF Try.func44 c44 rfl ?_
  have l0 : (l.map (·.m0)).length = l.length := List.length_map _
  have l1 : (l.map (·.m1)).length = l.length := List.length_map _
  have r0 : ∀ a ∈ l.map (·.m0), I64 a := fun a ha => by obtain ⟨r, hr', rfl⟩ := List.mem_map.mp ha; exact (hr r hr').1
  have r1 : ∀ a ∈ l.map (·.m1), I64 a := fun a ha => by obtain ⟨r, hr', rfl⟩ := List.mem_map.mp ha; exact (hr r hr').2
  have k0 := (ofL_facts (l.map (·.m0))).2.2.2.2
  have k1 := (ofL_facts (l.map (·.m1))).2.2.2.2
  have g0 : good (ofL (l.map (·.m0))) = true := good_ofL (by omega)
  have g1 : good (ofL (l.map (·.m1))) = true := good_ofL (by omega)
  unfold p44 r44_0 r44_1 r44_2 r44_3 r44_4 r44_11
  by_cases hm : 1 ≤ m ∧ m ≤ 2
  · cases l with
    | nil =>
      rw [show ofC m [] = (zeroC, false) by simp [ofC]]
      repeat' (first | refine len_sl (es := []) rfl rfl ?_ | refine w_seq ?_ | refine w_ops ?_ | refine st_nil ?_ | refine th_n ?_ | refine th_r ?_ | refine w_ret ?_ | refine w_true rfl ?_ | refine g_yes rfl ?_ | refine mv_c rfl ?_ | refine pick_f rfl rfl ?_ | refine lss_f rfl rfl (by omega) ?_ | refine gtr_f rfl rfl (by omega) ?_ | refine eqd_ rfl rfl ?_ | refine alloc_ (fun u => ?_) | refine build_ rfl rfl ?_ | refine store_ptr rfl rfl (by decide) rfl rfl (Nat.le_of_ble_eq_true rfl) rfl ?_)
      exact fin_r (rv_cell rfl rfl rfl rfl rv_nil) rfl
    | cons r0' l' =>
      generalize hL : r0' :: l' = l at *
      have hne : l ≠ [] := by rw [← hL]; simp
      have hpos : 0 < l.length := by rw [← hL]; simp
      have lenE : (l.map encRow).length = l.length := List.length_map _
      by_cases hm2 : m = 2
      · have cM := C_made m l.length (ofL (l.map (·.m0))) (ofL (l.map (·.m1))) hm (by constructor <;> omega) (by omega) (by omega) (ranged_ofL r0 (by omega)) (ranged_ofL r1 (by omega)) g0 (fun _ => g1)
        have e : madeC m l.length (ofL (l.map (·.m0))) (ofL (l.map (·.m1))) = ofC m l := by
          unfold madeC ofC
          rw [wsum_ofL, wsum_ofL]
          simp only [if_pos hm2]
          have hg : goodC m ⟨l.length, sumI (l.map (·.m0)), sumI (l.map (·.m1)), ofL (l.map (·.m0)), ofL (l.map (·.m1))⟩ = true := by
            refine goodC_iff.mpr ⟨hm, ⟨by simp; omega, by simp; omega⟩, ?_, ?_⟩
            · have := good_vals (v := l.map (·.m0)) (by omega); rw [l0] at this; exact this
            · rw [if_pos hm2]; have := good_vals (v := l.map (·.m1)) (by omega); rw [l1] at this; exact this
          by_cases hf : I64 (sumI (l.map (·.m0))) ∧ I64 (sumI (l.map (·.m1)))
          · rw [if_pos ⟨hf.1, fun _ => hf.2, hg⟩, if_pos ⟨hm, hne, hf.1, fun _ => hf.2⟩]
          · rw [if_neg (fun h => hf ⟨h.1, h.2.1 hm2⟩), if_neg (fun h => hf ⟨h.2.2.1, h.2.2.2 hm2⟩)]
        rw [e] at cM
        generalize ofC m l = q at cM ⊢
        repeat' (first | refine len_sl rfl lenE ?_ | refine w_seq ?_ | refine w_ops ?_ | refine st_nil ?_ | refine th_n ?_ | refine w_block ?_ | refine w_skip ?_ | refine w_false rfl ?_ | refine g_yes rfl ?_ | refine mv_c rfl ?_ | refine pick_f rfl rfl ?_ | refine lss_f rfl rfl (by omega) ?_ | refine gtr_f rfl rfl (by omega) ?_ | refine eql_f rfl rfl (by omega) ?_ | refine alloc_ (fun u => ?_))
        refine w_loop ?_
        unfold b44_0 r44_5 r44_6 r44_7
        repeat' (first | refine w_seq ?_ | refine w_ops ?_ | refine st_nil ?_ | refine th_n ?_ | refine w_block ?_ | refine w_skip ?_ | refine w_true rfl ?_ | refine mv_c rfl ?_ | refine lss_t rfl rfl (by omega) ?_)
        refine lay_rows l hlen false _ _ _ _ _ l 0 [] _ rfl (by omega) (by simp [asc]) (fun q hq => by simp at hq) (by simp) (by simp [sum]) (by rfl) (by rfl) (by rfl) (by rfl) (by rfl) (by rfl) (by rfl) (by rfl) ?_
        intro s' t1 t6 t5 b5 t0 t4 b4
        rw [rofS_ofL, show mv (bi false) = (·.m0) from mv0] at b5
        rw [show bi false = 0 from rfl] at t6
        rw [← put_same t1, ← put_same t6, ← put_same t5, ← put_same t0, ← put_same t4, ← box_same b5, ← box_same b4]
        repeat' (first | refine w_ops ?_ | refine st_nil ?_ | refine th_n ?_ | refine bk_n ?_ | refine bk_x ?_ | refine mv_c rfl ?_ | refine add_in rfl rfl (by omega) ?_)
        refine w_loop ?_
        repeat' (first | refine w_seq ?_ | refine w_ops ?_ | refine st_nil ?_ | refine th_n ?_ | refine w_block ?_ | refine w_skip ?_ | refine w_true rfl ?_ | refine mv_c rfl ?_ | refine lss_t rfl rfl (by omega) ?_)
        refine lay_rows l hlen true _ _ _ _ _ l 0 [] _ rfl (by omega) (by simp [asc]) (fun q hq => by simp at hq) (by simp) (by simp [sum]) (by rfl) (by rfl) (by rfl) (by rfl) (by rfl) (by rfl) (by rfl) (by rfl) ?_
        intro s' t1 t6 t5 b5 t0 t4 b4
        rw [rofS_ofL, show mv (bi true) = (·.m1) from mv1] at b5
        rw [show bi true = 1 from rfl] at t6
        rw [← put_same t1, ← put_same t6, ← put_same t5, ← put_same t0, ← put_same t4, ← box_same b5, ← box_same b4]
        repeat' (first | refine w_ops ?_ | refine st_nil ?_ | refine th_n ?_ | refine bk_n ?_ | refine bk_x ?_ | refine mv_c rfl ?_ | refine add_in rfl rfl (by omega) ?_)
        refine w_loop ?_
        repeat' (first | refine len_sl rfl lenE ?_ | refine call3 rfl rfl rfl cM ?_ | refine w_seq ?_ | refine w_ops ?_ | refine st_nil ?_ | refine th_n ?_ | refine th_x ?_ | refine bk_x ?_ | refine w_exit ?_ | refine w_ret ?_ | refine w_false rfl ?_ | refine mv_c rfl ?_ | refine lss_f rfl rfl (by omega) ?_ | refine load_ptr rfl (by decide) rfl (Nat.le_of_ble_eq_true rfl) rfl ?_ | refine store_ptr rfl rfl (by decide) rfl rfl (Nat.le_of_ble_eq_true rfl) rfl ?_)
        exact fin_r (rv_cell rfl rfl rfl rfl rv_nil) rfl
      · have cM := C_made m l.length (ofL (l.map (·.m0))) [] hm (by constructor <;> omega) (by omega) (by simp) (ranged_ofL r0 (by omega)) (fun q hq => by simp at hq) g0 (fun h => absurd h hm2)
        have e : madeC m l.length (ofL (l.map (·.m0))) [] = ofC m l := by
          unfold madeC ofC
          rw [wsum_ofL]
          simp only [if_neg hm2]
          have hg : goodC m ⟨l.length, sumI (l.map (·.m0)), 0, ofL (l.map (·.m0)), []⟩ = true := by
            refine goodC_iff.mpr ⟨hm, ⟨by simp; omega, by simp; omega⟩, ?_, ?_⟩
            · have := good_vals (v := l.map (·.m0)) (by omega); rw [l0] at this; exact this
            · rw [if_neg hm2]; exact ⟨rfl, rfl⟩
          by_cases hf : I64 (sumI (l.map (·.m0)))
          · rw [if_pos ⟨hf, fun h => absurd h hm2, hg⟩, if_pos ⟨hm, hne, hf, fun h => absurd h hm2⟩]
          · rw [if_neg (fun h => hf h.1), if_neg (fun h => hf h.2.2.1)]
        rw [e] at cM
        generalize ofC m l = q at cM ⊢
        repeat' (first | refine len_sl rfl lenE ?_ | refine w_seq ?_ | refine w_ops ?_ | refine st_nil ?_ | refine th_n ?_ | refine w_block ?_ | refine w_skip ?_ | refine w_false rfl ?_ | refine g_yes rfl ?_ | refine mv_c rfl ?_ | refine pick_f rfl rfl ?_ | refine lss_f rfl rfl (by omega) ?_ | refine gtr_f rfl rfl (by omega) ?_ | refine eql_f rfl rfl (by omega) ?_ | refine alloc_ (fun u => ?_))
        refine w_loop ?_
        unfold b44_0 r44_5 r44_6 r44_7
        repeat' (first | refine w_seq ?_ | refine w_ops ?_ | refine st_nil ?_ | refine th_n ?_ | refine w_block ?_ | refine w_skip ?_ | refine w_true rfl ?_ | refine mv_c rfl ?_ | refine lss_t rfl rfl (by omega) ?_)
        refine lay_rows l hlen false _ _ _ _ _ l 0 [] _ rfl (by omega) (by simp [asc]) (fun q hq => by simp at hq) (by simp) (by simp [sum]) (by rfl) (by rfl) (by rfl) (by rfl) (by rfl) (by rfl) (by rfl) (by rfl) ?_
        intro s' t1 t6 t5 b5 t0 t4 b4
        rw [rofS_ofL, show mv (bi false) = (·.m0) from mv0] at b5
        rw [show bi false = 0 from rfl] at t6
        rw [← put_same t1, ← put_same t6, ← put_same t5, ← put_same t0, ← put_same t4, ← box_same b5, ← box_same b4]
        repeat' (first | refine w_ops ?_ | refine st_nil ?_ | refine th_n ?_ | refine bk_n ?_ | refine bk_x ?_ | refine mv_c rfl ?_ | refine add_in rfl rfl (by omega) ?_)
        refine w_loop ?_
        repeat' (first | refine len_sl rfl lenE ?_ | refine call3 rfl rfl rfl cM ?_ | refine w_seq ?_ | refine w_ops ?_ | refine st_nil ?_ | refine th_n ?_ | refine th_x ?_ | refine bk_x ?_ | refine w_exit ?_ | refine w_ret ?_ | refine w_false rfl ?_ | refine mv_c rfl ?_ | refine lss_f rfl rfl (by omega) ?_ | refine load_ptr rfl (by decide) rfl (Nat.le_of_ble_eq_true rfl) rfl ?_ | refine store_ptr rfl rfl (by decide) rfl rfl (Nat.le_of_ble_eq_true rfl) rfl ?_)
        exact fin_r (rv_cell rfl rfl rfl rfl rv_nil) rfl
  · rw [show ofC m l = (zeroC, false) by unfold ofC; rw [if_neg (fun h => hm h.1)]]
    by_cases h1 : m < 1
    · repeat' (first | refine w_seq ?_ | refine w_ops ?_ | refine st_nil ?_ | refine th_n ?_ | refine th_r ?_ | refine w_ret ?_ | refine w_true rfl ?_ | refine g_no rfl ?_ | refine mv_c rfl ?_ | refine pick_t rfl rfl ?_ | refine lss_t rfl rfl (by omega) ?_ | refine alloc_ (fun u => ?_) | refine build_ rfl rfl ?_ | refine store_ptr rfl rfl (by decide) rfl rfl (Nat.le_of_ble_eq_true rfl) rfl ?_)
      exact fin_r (rv_cell rfl rfl rfl rfl rv_nil) rfl
    · repeat' (first | refine w_seq ?_ | refine w_ops ?_ | refine st_nil ?_ | refine th_n ?_ | refine th_r ?_ | refine w_ret ?_ | refine w_true rfl ?_ | refine g_yes rfl ?_ | refine g_no rfl ?_ | refine mv_c rfl ?_ | refine pick_t rfl rfl ?_ | refine pick_f rfl rfl ?_ | refine lss_f rfl rfl (by omega) ?_ | refine gtr_t rfl rfl (by omega) ?_ | refine alloc_ (fun u => ?_) | refine build_ rfl rfl ?_ | refine store_ptr rfl rfl (by decide) rfl rfl (Nat.le_of_ble_eq_true rfl) rfl ?_)
      exact fin_r (rv_cell rfl rfl rfl rfl rv_nil) rfl
end Go.Proofs.Ytcmejdkjfekoeaa
namespace Go.Proofs.Ytcmejdkjfekoeaa
open Go.Pl Go.Bag
set_option maxHeartbeats 32000000
set_option maxRecDepth 100000
theorem or_1c (b : Int) : binC .or (.int .i64 b) (.int .i64 1) = some (.int .i64 (orJ b)) := rfl
theorem xor_1c (a b : Int) : binC .xor (.int .i64 a) (.int .i64 (orJ b)) = some (.int .i64 (xorI a b)) := rfl
theorem rem_5c {a k : Int} (h0 : 0 ≤ a) (h : a % 5 = k) : binC .rem (.int .u8 a) (.int .u8 5) = some (.int .u8 k) := by
  simp only [binC]
  rw [if_pos ⟨trivial, by decide⟩, Int.tmod_eq_emod_of_nonneg h0, h]
theorem w_cut13 {C : CallP} {p q : PCode} {s : PS} {K : Ex → PS → Prop} (R : PS → Prop) (h1 : wP C p s (xT R K)) (h2 : ∀ s', R s' → wP C q s' K) : wP C (.seq p q) s K := by
  refine w_seq ?_
  unfold wP xT at *
  refine pwp_mono (fun e s h => ?_) h1
  cases e with
  | n => exact h2 s h
  | x i => exact h
  | r => exact h
theorem slc_pre9 {C : CallP} {l : List POp} {s : PS} {K : PS → Prop} {d : Nat} {x y : PO} {sz : Nat} {k : IntKind} {n : Int} {es zs : List (List CV)} {j : Nat} (hx : s.ev x = .c (.sl es)) (hy : s.ev y = .c (.int k n)) (hn : n = (j : Int)) (hj : j ≤ es.length) (hw : ∀ e ∈ es, e.length = sz) (hz : es.take j = zs)
    (h : wL C l (s.put d (.c (.sl zs))) K) : wL C (⟨some d, .slc sz x none (some y), none⟩ :: l) s K := by
  subst hn
  exact slc_c hx rfl (by simp only [bound, PS.evc, hy]; rw [if_pos (Int.natCast_nonneg _)]; rfl) ⟨Nat.zero_le _, hj⟩ hw (by simpa using hz) h
def q13 : PCode := match p13 with
  | .seq _ (.seq _ (.seq _ (.seq _ (.seq _ (.seq _ (.seq _ r)))))) => r
  | _ => .skip
def q13r : PCode := match q13 with
  | .seq _ r => r
  | _ => .skip
def R13 (c y : Cell) (m : Int) (s' : PS) : Prop := ∃ v8 v9 : Nat, s'.t 8 = .ptr 8 v8 0 ∧ s'.bx 8 = ⟨v8, .var [.int .i64 c.n, .int .i64 c.s0, .int .i64 c.s1, encL c.b0, encL c.b1, .bool true]⟩ ∧ s'.t 9 = .ptr 9 v9 0 ∧ s'.t 7 = .c (.int .i64 m) ∧
  (s'.bx 9 = ⟨v9, .var (encC y)⟩ ∨
   (∃ u, s'.bx 9 = ⟨v9, .vp [.c (.int .i64 y.n), .c (.int .i64 y.s0), .c (.int .i64 y.s1), .osl 65 u 0 (y.b0.map encR).length, .c (encL y.b1)]⟩ ∧ s'.bx 65 = ⟨u, .sl 2 (y.b0.map encR)⟩) ∨
   (∃ u, s'.bx 9 = ⟨v9, .vp [.c (.int .i64 y.n), .c (.int .i64 y.s0), .c (.int .i64 y.s1), .osl 98 u 0 (y.b0.map encR).length, .c (encL y.b1)]⟩ ∧ s'.bx 98 = ⟨u, .sl 2 (y.b0.map encR)⟩))
theorem sp13_end (c y : Cell) (m : Int) (ic : inC 1000 c) (iy : inC 1000 y) (g : goodC m c = true)
    (hf : goodC m y = false ∧ decide (c = y) = false ∧ (joinC m c y).2 = false ∧ (joinC m y c).2 = false ∧ ∀ p, lineC m p y = zeroLn) (s' : PS) (v8 v9 : Nat)
    (t8 : s'.t 8 = .ptr 8 v8 0) (b8 : s'.bx 8 = ⟨v8, .var [.int .i64 c.n, .int .i64 c.s0, .int .i64 c.s1, encL c.b0, encL c.b1, .bool true]⟩) (t9 : s'.t 9 = .ptr 9 v9 0) (t7 : s'.t 7 = .c (.int .i64 m)) (b9 : s'.bx 9 = ⟨v9, .var (encC y)⟩) :
    wP (PCallG Try.prog) (.ops false r13_24) s' (xT (fun s' => wP (PCallG Try.prog) q13r s' (FinK rs13 (.c (.bool true)))) (FinK rs13 (.c (.bool true)))) := by
  obtain ⟨f1, f2, f3, f4, f5⟩ := hf
  have cw := C_wakes9
  have ic' := inC_up (b := 1000000) (by decide) ic
  have iy' := inC_up (b := 1000000) (by decide) iy
  have c1 := C_cJoin m c y ic' iy'
  have c2 := C_cJoin m y c iy' ic'
  have c3 := C_cGood m c ic'
  have c4 := C_cGood m y iy'
  have c5 := C_cSame c y ⟨ic'.2.2.2.2.2.1, ic'.2.2.2.2.2.2⟩ ⟨iy'.2.2.2.2.2.1, iy'.2.2.2.2.2.2⟩
  have c6 := C_cLine m ⟨1, 0, 0, 0⟩ y iy'
  rw [f3] at c1; rw [f4] at c2; rw [g] at c3; rw [f1] at c4; rw [f2] at c5; rw [f5] at c6
  generalize (joinC m c y).1 = j1 at c1
  generalize (joinC m y c).1 = j2 at c2
  rw [← put_same t8, ← box_same b8, ← put_same t9, ← box_same b9, ← put_same t7]
  have e2 : eqC true [LK.i, LK.i, LK.i, LK.i, LK.i, LK.i, LK.i, LK.i, LK.i, LK.i, LK.i] (encLine zeroLn) (encLine zeroLn) = some true := by
    simp [eqC, encLine, encLn, shEq]
  unfold q13r q13
  unfold p13 r13_0 r13_1 r13_2 r13_3 r13_4 r13_5 r13_6 r13_7 r13_8 r13_9 r13_10 r13_11 r13_12 r13_13 r13_14 r13_15 r13_16 r13_17 r13_18 r13_19 r13_20 r13_21 r13_22 r13_23 r13_24 r13_25 r13_26
  dsimp only
  repeat' (first | refine call3 rfl rfl rfl c1 ?_ | refine call3 rfl rfl rfl c2 ?_ | refine call2 rfl rfl c3 ?_ | refine call2 rfl rfl c4 ?_ | refine call2 rfl rfl c5 ?_ | refine call3 rfl rfl rfl c6 ?_ | refine eqs_t rfl rfl e2 ?_ | refine call0 cw ?_ | refine w_seq ?_ | refine w_ops ?_ | refine st_nil ?_ | refine th_n ?_ | refine w_ret ?_ | refine g_yes rfl ?_ | refine mv_c rfl ?_ | refine pick_t rfl rfl ?_ | refine not_ rfl ?_ | refine alloc_ (fun u => ?_) | refine build_ rfl rfl ?_ | refine load_ptr rfl (by decide) rfl (Nat.le_of_ble_eq_true rfl) rfl ?_ | refine store_ptr rfl rfl (by decide) rfl rfl (Nat.le_of_ble_eq_true rfl) rfl ?_ | refine fad_ptr rfl rfl rfl ?_ | refine ext_ rfl rfl ?_)
  exact fin_r rfl rfl
theorem sp13_tail (c y : Cell) (m : Int) (ic : inC 1000 c) (iy : inC 1000 y) (g : goodC m c = true)
    (hf : goodC m y = false ∧ decide (c = y) = false ∧ (joinC m c y).2 = false ∧ (joinC m y c).2 = false ∧ ∀ p, lineC m p y = zeroLn) (s' : PS) (h : R13 c y m s') :
    wP (PCallG Try.prog) q13 s' (FinK rs13 (.c (.bool true))) := by
  have last := sp13_end c y m ic iy g hf
  obtain ⟨v8, v9, t8, b8, t9, t7, h⟩ := h
  have split : ∀ {rest : PCode} {K : Ex → PS → Prop} (hq : q13 = .seq (.fzc 9 3 (.nvp 9 (.ops false r13_24))) rest), wP (PCallG Try.prog) (.fzc 9 3 (.nvp 9 (.ops false r13_24))) s' (xT (fun s' => wP (PCallG Try.prog) rest s' K) K) → wP (PCallG Try.prog) q13 s' K := fun hq h => by rw [hq]; exact w_seq h
  refine split (rest := q13r) rfl ?_
  rcases h with b9 | ⟨u, b9, bu⟩ | ⟨u, b9, bu⟩
  · refine w_fzc_v t9 b9 ?_
    refine w_nvp_v t9 b9 ?_
    exact last s' v8 v9 t8 b8 t9 t7 b9
  · refine w_fzc t9 b9 rfl (by decide) bu rfl rfl (fun q => ?_)
    rw [← put_same t8, ← box_same b8, ← put_same t9, ← put_same t7]
    refine w_nvp (cs := encC y) rfl rfl rfl ?_
    exact last _ v8 v9 (by rfl) (by rfl) (by rfl) (by rfl) (by rfl)
  · refine w_fzc t9 b9 rfl (by decide) bu rfl rfl (fun q => ?_)
    rw [← put_same t8, ← box_same b8, ← put_same t9, ← put_same t7]
    refine w_nvp (cs := encC y) rfl rfl rfl ?_
    exact last _ v8 v9 (by rfl) (by rfl) (by rfl) (by rfl) (by rfl)
theorem C_CellSpoilt (two : Bool) (l : List RowS) (how by_ : Int) (hr : ∀ r ∈ l, inR r) (hl : l.length ≤ 9223372036854775807) (hh : 0 ≤ how ∧ how ≤ 255) (hb : in64 by_) :
    PCallG Try.prog 13 [.c (.bool two), .c (encRows l), .c (.agg [.int .u8 how, .int .i64 by_])] (.c (.bool true)) [] := by
  have cw := C_wakes9
  have c0 := C_many two
  have lel : (l.map encRow).length = l.length := List.length_map _
  refine pcallF Try.func13 c13 rfl ?_
  by_cases h1 : l.length ≤ 60
  · have c1 := C_rcOf (manyI two) l (by omega) hr
    have ic := inC_ofC (m := manyI two) (l := l) (by omega) hr
    unfold rcV at c1
    cases q : (ofC (manyI two) l).2 with
    | false =>
      rw [q] at c1
      unfold p13 r13_0 r13_1 r13_2 r13_3 r13_4 r13_5 r13_6 r13_7 r13_8 r13_9 r13_10 r13_11 r13_12 r13_13 r13_14 r13_15 r13_16 r13_17 r13_18 r13_19 r13_20 r13_21 r13_22 r13_23 r13_24 r13_25 r13_26
      repeat' (first | refine len_sl rfl lel ?_ | refine call1 rfl c0 ?_ | refine call2 rfl rfl c1 ?_ | refine call0 cw ?_ | refine w_seq ?_ | refine w_ops ?_ | refine st_nil ?_ | refine th_n ?_ | refine th_r ?_ | refine w_skip ?_ | refine w_ret ?_ | refine w_true rfl ?_ | refine w_false rfl ?_ | refine mv_c rfl ?_ | refine gtr_f rfl rfl (by omega) ?_ | refine not_ rfl ?_ | refine alloc_ (fun u => ?_) | refine box_ rfl rfl rfl (fun u => ?_) | refine load_ptr rfl (by decide) rfl (Nat.le_of_ble_eq_true rfl) rfl ?_ | refine store_ptr rfl rfl (by decide) rfl rfl (Nat.le_of_ble_eq_true rfl) rfl ?_ | refine fad_ptr rfl rfl rfl ?_)
      exact fin_r rfl rfl
    | true =>
      rw [q] at c1
      have g := good_ofC (l := l) (by omega) q
      have hm : manyI two = if two then 2 else 1 := rfl
      generalize (ofC (manyI two) l).1 = c at *
      generalize manyI two = m at *
      have tail := fun (k : Nat) (s' : PS) (h : R13 c (spoilC k (xorI c.s0 by_) (orJ by_) two c) m s') => sp13_tail c _ m ic (spoilC_in (how := k) (two := two) g ic (wrap64_in64 _) (wrap64_in64 _)) g (spoilC_facts (how := k) (two := two) hm g (xor_odd _ _) (orJ_ne _)) s' h
      obtain ⟨g1, g2, g3, g4⟩ := goodC_iff.mp g
      obtain ⟨q1, q2, q3⟩ := gM_iff.mp g3
      have hne := ne_nil_of g
      have gp := (good_iff.mp q1).2.1
      have hs := fun r hr => le_sum gp r hr
      have lb0 := ic.2.2.2.2.2.1
      obtain ⟨n, s0, s1, b0, b1⟩ := c
      simp only at c1 g2 q1 q2 q3 hne gp hs lb0
      have hw := encR_len b0
      rcases (show how % 5 = 0 ∨ how % 5 = 1 ∨ how % 5 = 2 ∨ how % 5 = 3 ∨ how % 5 = 4 by omega) with hk | hk | hk | hk | hk
      · have hr := rem_5c hh.1 hk
        unfold p13 r13_0 r13_1 r13_2 r13_3 r13_4 r13_5 r13_6 r13_7 r13_8 r13_9 r13_10 r13_11 r13_12 r13_13 r13_14 r13_15 r13_16 r13_17 r13_18 r13_19 r13_20 r13_21 r13_22 r13_23 r13_24 r13_25 r13_26
        repeat' (first | refine w_cut13 (p := .seq (.ops false r13_8) _) (R13 ⟨n, s0, s1, b0, b1⟩ (spoilC 0 (xorI s0 by_) (orJ by_) two ⟨n, s0, s1, b0, b1⟩) m) ?_ (tail 0) | refine len_sl rfl lel ?_ | refine call1 rfl c0 ?_ | refine call2 rfl rfl c1 ?_ | refine bin_ rfl rfl hr ?_ | refine w_seq ?_ | refine w_ops ?_ | refine st_nil ?_ | refine th_n ?_ | refine bk_n ?_ | refine w_block ?_ | refine w_skip ?_ | refine w_true rfl ?_ | refine w_false rfl ?_ | refine mv_c rfl ?_ | refine gtr_f rfl rfl (by omega) ?_ | refine eql_t rfl rfl (by omega) ?_ | refine not_ rfl ?_ | refine add_in rfl rfl (by omega) ?_ | refine alloc_ (fun u => ?_) | refine box_ rfl rfl rfl (fun u => ?_) | refine load_ptr rfl (by decide) rfl (Nat.le_of_ble_eq_true rfl) rfl ?_ | refine store_ptr rfl rfl (by decide) rfl rfl (Nat.le_of_ble_eq_true rfl) rfl ?_ | refine fad_ptr rfl rfl rfl ?_)
        exact ⟨_, _, by rfl, by rfl, by rfl, by rfl, .inl (by rfl)⟩
      · have hr := rem_5c hh.1 hk
        unfold p13 r13_0 r13_1 r13_2 r13_3 r13_4 r13_5 r13_6 r13_7 r13_8 r13_9 r13_10 r13_11 r13_12 r13_13 r13_14 r13_15 r13_16 r13_17 r13_18 r13_19 r13_20 r13_21 r13_22 r13_23 r13_24 r13_25 r13_26
        repeat' (first | refine w_cut13 (p := .seq (.ops false r13_8) _) (R13 ⟨n, s0, s1, b0, b1⟩ (spoilC 1 (xorI s0 by_) (orJ by_) two ⟨n, s0, s1, b0, b1⟩) m) ?_ (tail 1) | refine len_sl rfl lel ?_ | refine call1 rfl c0 ?_ | refine call2 rfl rfl c1 ?_ | refine bin_ rfl rfl hr ?_ | refine bin_ rfl rfl (or_1c _) ?_ | refine bin_ rfl rfl (xor_1c _ _) ?_ | refine w_seq ?_ | refine w_ops ?_ | refine st_nil ?_ | refine th_n ?_ | refine bk_n ?_ | refine w_block ?_ | refine w_skip ?_ | refine w_true rfl ?_ | refine w_false rfl ?_ | refine mv_c rfl ?_ | refine gtr_f rfl rfl (by omega) ?_ | refine eql_t rfl rfl (by omega) ?_ | refine eql_f rfl rfl (by omega) ?_ | refine not_ rfl ?_ | refine alloc_ (fun u => ?_) | refine box_ rfl rfl rfl (fun u => ?_) | refine load_ptr rfl (by decide) rfl (Nat.le_of_ble_eq_true rfl) rfl ?_ | refine store_ptr rfl rfl (by decide) rfl rfl (Nat.le_of_ble_eq_true rfl) rfl ?_ | refine fad_ptr rfl rfl rfl ?_ | refine iaA_ptr rfl rfl rfl (by omega) rfl ?_)
        exact ⟨_, _, by rfl, by rfl, by rfl, by rfl, .inl (by rfl)⟩
      · have hr := rem_5c hh.1 hk
        cases b0 with
        | nil => exact absurd rfl hne
        | cons r0 l0 =>
          obtain ⟨x0, n0⟩ := r0
          have hs0 := hs (x0, n0) (by simp)
          have gp0 := gp (x0, n0) (by simp)
          simp only at hs0 gp0
          have hg : ([] : List (List CV)).length + (((x0, n0) :: l0).map encR).length ≤ maxGrow := by simp [maxGrow] at lb0 ⊢; omega
          have hlm : (((x0, n0) :: l0).map encR).length = l0.length + 1 := by simp
          have he0 : (((x0, n0) :: l0).map encR)[(0 : Int).toNat]? = some [CV.int .i64 x0, CV.int .i64 n0] := rfl
          unfold p13 r13_0 r13_1 r13_2 r13_3 r13_4 r13_5 r13_6 r13_7 r13_8 r13_9 r13_10 r13_11 r13_12 r13_13 r13_14 r13_15 r13_16 r13_17 r13_18 r13_19 r13_20 r13_21 r13_22 r13_23 r13_24 r13_25 r13_26
          repeat' (first | refine w_cut13 (p := .seq (.ops false r13_8) _) (R13 ⟨n, s0, s1, (x0, n0) :: l0, b1⟩ (spoilC 2 (xorI s0 by_) (orJ by_) two ⟨n, s0, s1, (x0, n0) :: l0, b1⟩) m) ?_ (tail 2) | refine len_sl rfl lel ?_ | refine call1 rfl c0 ?_ | refine call2 rfl rfl c1 ?_ | refine bin_ rfl rfl hr ?_ | refine app_own rfl rfl rfl rfl hg hw (List.nil_append _) hlm (fun _ _ => ?_) | refine store_vo rfl rfl (by decide) rfl (Nat.le_of_ble_eq_true rfl) rfl ?_ | refine fad_vp rfl rfl rfl ?_ | refine iaA_vp rfl rfl rfl (by omega) rfl ?_ | refine load_vp rfl (by decide) rfl (Nat.le_of_ble_eq_true rfl) rfl ?_ | refine load_sp rfl (by decide) rfl he0 (Nat.le_of_ble_eq_true rfl) rfl ?_ | refine store_sp rfl rfl (by decide) rfl he0 rfl (Nat.le_of_ble_eq_true rfl) rfl ?_ | refine w_seq ?_ | refine w_ops ?_ | refine st_nil ?_ | refine th_n ?_ | refine bk_n ?_ | refine w_block ?_ | refine w_skip ?_ | refine w_true rfl ?_ | refine w_false rfl ?_ | refine mv_c rfl ?_ | refine gtr_f rfl rfl (by omega) ?_ | refine eql_t rfl rfl (by omega) ?_ | refine eql_f rfl rfl (by omega) ?_ | refine not_ rfl ?_ | refine add_in rfl rfl (by omega) ?_ | refine alloc_ (fun u => ?_) | refine box_ rfl rfl rfl (fun u => ?_) | refine bsl_own rfl rfl rfl (fun u => ?_) | refine load_ptr rfl (by decide) rfl (Nat.le_of_ble_eq_true rfl) rfl ?_ | refine store_ptr rfl rfl (by decide) rfl rfl (Nat.le_of_ble_eq_true rfl) rfl ?_ | refine fad_ptr rfl rfl rfl ?_ | refine fad_sp rfl rfl rfl ?_ | refine iaA_ptr rfl rfl rfl (by omega) rfl ?_ | refine iaS_osl rfl rfl rfl (by omega) rfl ?_)
          refine ⟨_, _, by rfl, by rfl, by rfl, by rfl, .inr (.inl ⟨_, ?_, by rfl⟩)⟩
          show _ = Box.mk _ (BSt.vp [.c (.int .i64 n), .c (.int .i64 s0), .c (.int .i64 s1), .osl 65 _ 0 (((x0, n0 + 1) :: l0).map encR).length, .c (encL b1)])
          rw [show (((x0, n0 + 1) :: l0).map encR).length = l0.length + 1 by simp]
          rfl
      · have hr := rem_5c hh.1 hk
        rcases snoc_cases b0 with hb0 | ⟨k, r, hb0⟩
        · exact absurd hb0 hne
        · subst hb0
          obtain ⟨x0, n0⟩ := r
          have hk1 : k.length + 1 ≤ 1000 := by simpa using lb0
          have hlk : ((k ++ [(x0, n0)]).map encR).length = k.length + 1 := by simp
          have hel : ∀ i : Int, i = k.length → ((k ++ [(x0, n0)]).map encR)[i.toNat]? = some [CV.int .i64 x0, CV.int .i64 n0] := fun i hi => by subst hi; simp [encR]
          have htk : ((k ++ [(x0, n0)]).map encR).take k.length = k.map encR := by simp
          have hw1 : ∀ e ∈ [[CV.int .i64 x0, CV.int .i64 n0]], e.length = 2 := by intro e he; cases List.mem_singleton.mp he; rfl
          have hwk := encR_len k
          have hgA : ([] : List (List CV)).length + [[CV.int .i64 x0, CV.int .i64 n0]].length ≤ maxGrow := by simp [maxGrow]
          have hgB : [[CV.int .i64 x0, CV.int .i64 n0]].length + (k.map encR).length ≤ maxGrow := by simp [maxGrow]; omega
          by_cases hk0 : k = []
          · subst hk0
            have hlm : ([] : List Run).length = 0 := rfl
            unfold p13 r13_0 r13_1 r13_2 r13_3 r13_4 r13_5 r13_6 r13_7 r13_8 r13_9 r13_10 r13_11 r13_12 r13_13 r13_14 r13_15 r13_16 r13_17 r13_18 r13_19 r13_20 r13_21 r13_22 r13_23 r13_24 r13_25 r13_26
            repeat' (first | refine w_cut13 (p := .seq (.ops false r13_8) _) (R13 ⟨n, s0, s1, [] ++ [(x0, n0)], b1⟩ (spoilC 3 (xorI s0 by_) (orJ by_) two ⟨n, s0, s1, [] ++ [(x0, n0)], b1⟩) m) ?_ (tail 3) | refine len_sl rfl lel ?_ | refine len_sl rfl hlk ?_ | refine call1 rfl c0 ?_ | refine call2 rfl rfl c1 ?_ | refine bin_ rfl rfl hr ?_ | refine iaS_c rfl rfl (by omega) (hel _ (by simp)) rfl ?_ | refine slc_pre9 (j := 0) rfl rfl (by simp) (by simp) hw htk ?_ | refine app_own rfl rfl rfl rfl hgA hw1 (List.nil_append _) rfl (fun _ _ => ?_) | refine app_own rfl rfl rfl rfl hgB hwk rfl rfl (fun _ _ => ?_) | refine store_vo rfl rfl (by decide) rfl (Nat.le_of_ble_eq_true rfl) rfl ?_ | refine fad_vp rfl rfl rfl ?_ | refine iaA_vp rfl rfl rfl (by omega) rfl ?_ | refine load_vp rfl (by decide) rfl (Nat.le_of_ble_eq_true rfl) rfl ?_ | refine iaS_osl rfl rfl rfl (by simp) rfl ?_ | refine store_sp rfl rfl (by decide) rfl (by rfl) rfl (Nat.le_of_ble_eq_true rfl) rfl ?_ | refine w_seq ?_ | refine w_ops ?_ | with_reducible refine lb_nil ?_ | with_reducible refine lb_x ?_ | refine lb_n rfl ?_ | refine lb_s rfl rfl ?_ | refine lb_0 rfl ?_ | refine st_nil ?_ | refine th_n ?_ | refine bk_n ?_ | refine w_block ?_ | refine w_skip ?_ | refine w_opsB3 rfl (fun u u u => ?_) | refine w_true rfl ?_ | refine w_false rfl ?_ | refine mv_c rfl ?_ | refine gtr_f rfl rfl (by omega) ?_ | refine eql_t rfl rfl (by omega) ?_ | refine eql_f rfl rfl (by omega) ?_ | refine not_ rfl ?_ | refine sub_in rfl rfl (by omega) ?_ | refine alloc_ (fun u => ?_) | refine box_ rfl rfl rfl (fun u => ?_) | refine bsl_ rfl rfl ?_ | refine bsl_own rfl rfl rfl (fun u => ?_) | refine load_rp rfl (Nat.le_of_ble_eq_true rfl) rfl ?_ | refine load_ptr rfl (by decide) rfl (Nat.le_of_ble_eq_true rfl) rfl ?_ | refine store_ptr rfl rfl (by decide) rfl rfl (Nat.le_of_ble_eq_true rfl) rfl ?_ | refine fad_ptr rfl rfl rfl ?_ | refine fad_sp rfl rfl rfl ?_ | refine iaA_ptr rfl rfl rfl (by omega) rfl ?_)
            exact ⟨_, _, by rfl, by rfl, by rfl, by rfl, .inr (.inr ⟨_, by rfl, by rfl⟩)⟩
          · have hpos : 0 < k.length := List.length_pos_iff.mpr hk0
            have hlm : ([[CV.int .i64 x0, CV.int .i64 n0]] ++ k.map encR).length = k.length + 1 := by simp
            unfold p13 r13_0 r13_1 r13_2 r13_3 r13_4 r13_5 r13_6 r13_7 r13_8 r13_9 r13_10 r13_11 r13_12 r13_13 r13_14 r13_15 r13_16 r13_17 r13_18 r13_19 r13_20 r13_21 r13_22 r13_23 r13_24 r13_25 r13_26
            repeat' (first | refine w_cut13 (p := .seq (.ops false r13_8) _) (R13 ⟨n, s0, s1, k ++ [(x0, n0)], b1⟩ (spoilC 3 (xorI s0 by_) (orJ by_) two ⟨n, s0, s1, k ++ [(x0, n0)], b1⟩) m) ?_ (tail 3) | refine len_sl rfl lel ?_ | refine len_sl rfl hlk ?_ | refine call1 rfl c0 ?_ | refine call2 rfl rfl c1 ?_ | refine bin_ rfl rfl hr ?_ | refine iaS_c rfl rfl (by omega) (hel _ (by omega)) rfl ?_ | refine slc_pre9 (j := k.length) rfl rfl (by omega) (by omega) hw htk ?_ | refine app_own rfl rfl rfl rfl hgA hw1 (List.nil_append _) rfl (fun _ _ => ?_) | refine app_own rfl rfl rfl rfl hgB hwk rfl hlm (fun _ _ => ?_) | refine store_vo rfl rfl (by decide) rfl (Nat.le_of_ble_eq_true rfl) rfl ?_ | refine w_seq ?_ | refine w_ops ?_ | with_reducible refine lb_nil ?_ | with_reducible refine lb_x ?_ | refine lb_n rfl ?_ | refine lb_s rfl rfl ?_ | refine lb_0 rfl ?_ | refine st_nil ?_ | refine th_n ?_ | refine bk_n ?_ | refine w_block ?_ | refine w_skip ?_ | refine w_opsB3 rfl (fun u u u => ?_) | refine w_true rfl ?_ | refine w_false rfl ?_ | refine mv_c rfl ?_ | refine gtr_f rfl rfl (by omega) ?_ | refine eql_t rfl rfl (by omega) ?_ | refine eql_f rfl rfl (by omega) ?_ | refine not_ rfl ?_ | refine sub_in rfl rfl (by omega) ?_ | refine alloc_ (fun u => ?_) | refine box_ rfl rfl rfl (fun u => ?_) | refine bsl_ rfl rfl ?_ | refine bsl_own rfl rfl rfl (fun u => ?_) | refine load_rp rfl (Nat.le_of_ble_eq_true rfl) rfl ?_ | refine load_ptr rfl (by decide) rfl (Nat.le_of_ble_eq_true rfl) rfl ?_ | refine store_ptr rfl rfl (by decide) rfl rfl (Nat.le_of_ble_eq_true rfl) rfl ?_ | refine fad_ptr rfl rfl rfl ?_ | refine iaA_ptr rfl rfl rfl (by omega) rfl ?_)
            have e3 : (spoilC 3 (xorI s0 by_) (orJ by_) two ⟨n, s0, s1, k ++ [(x0, n0)], b1⟩) = ⟨n, s0, s1, (x0, n0) :: k, b1⟩ := by simp [spoilC, last1, hk0]
            rw [e3]
            refine ⟨_, _, by rfl, by rfl, by rfl, by rfl, .inr (.inr ⟨_, ?_, by rfl⟩)⟩
            show _ = Box.mk _ (BSt.vp [.c (.int .i64 n), .c (.int .i64 s0), .c (.int .i64 s1), .osl 98 _ 0 (((x0, n0) :: k).map encR).length, .c (encL b1)])
            rw [show (((x0, n0) :: k).map encR).length = k.length + 1 by simp]
            rfl
      · have hr := rem_5c hh.1 hk
        unfold p13 r13_0 r13_1 r13_2 r13_3 r13_4 r13_5 r13_6 r13_7 r13_8 r13_9 r13_10 r13_11 r13_12 r13_13 r13_14 r13_15 r13_16 r13_17 r13_18 r13_19 r13_20 r13_21 r13_22 r13_23 r13_24 r13_25 r13_26
        cases two with
        | true =>
          repeat' (first | refine w_cut13 (p := .seq (.ops false r13_8) _) (R13 ⟨n, s0, s1, b0, b1⟩ (spoilC 4 (xorI s0 by_) (orJ by_) true ⟨n, s0, s1, b0, b1⟩) m) ?_ (tail 4) | refine len_sl rfl lel ?_ | refine call1 rfl c0 ?_ | refine call2 rfl rfl c1 ?_ | refine bin_ rfl rfl hr ?_ | refine w_seq ?_ | refine w_ops ?_ | refine st_nil ?_ | refine th_n ?_ | refine bk_n ?_ | refine w_block ?_ | refine w_skip ?_ | refine w_false rfl ?_ | refine mv_c rfl ?_ | refine gtr_f rfl rfl (by omega) ?_ | refine eql_f rfl rfl (by omega) ?_ | refine not_ rfl ?_ | refine alloc_ (fun u => ?_) | refine box_ rfl rfl rfl (fun u => ?_) | refine load_ptr rfl (by decide) rfl (Nat.le_of_ble_eq_true rfl) rfl ?_ | refine store_ptr rfl rfl (by decide) rfl rfl (Nat.le_of_ble_eq_true rfl) rfl ?_ | refine fad_ptr rfl rfl rfl ?_ | refine iaA_ptr rfl rfl rfl (by omega) rfl ?_)
          exact ⟨_, _, by rfl, by rfl, by rfl, by rfl, .inl (by rfl)⟩
        | false =>
          repeat' (first | refine w_cut13 (p := .seq (.ops false r13_8) _) (R13 ⟨n, s0, s1, b0, b1⟩ (spoilC 4 (xorI s0 by_) (orJ by_) false ⟨n, s0, s1, b0, b1⟩) m) ?_ (tail 4) | refine len_sl rfl lel ?_ | refine call1 rfl c0 ?_ | refine call2 rfl rfl c1 ?_ | refine bin_ rfl rfl hr ?_ | refine bin_ rfl rfl (or_1c _) ?_ | refine w_seq ?_ | refine w_ops ?_ | refine st_nil ?_ | refine th_n ?_ | refine bk_n ?_ | refine w_block ?_ | refine w_skip ?_ | refine w_true rfl ?_ | refine w_false rfl ?_ | refine mv_c rfl ?_ | refine gtr_f rfl rfl (by omega) ?_ | refine eql_f rfl rfl (by omega) ?_ | refine not_ rfl ?_ | refine alloc_ (fun u => ?_) | refine box_ rfl rfl rfl (fun u => ?_) | refine load_ptr rfl (by decide) rfl (Nat.le_of_ble_eq_true rfl) rfl ?_ | refine store_ptr rfl rfl (by decide) rfl rfl (Nat.le_of_ble_eq_true rfl) rfl ?_ | refine fad_ptr rfl rfl rfl ?_ | refine iaA_ptr rfl rfl rfl (by omega) rfl ?_)
          exact ⟨_, _, by rfl, by rfl, by rfl, by rfl, .inl (by rfl)⟩
  · unfold p13 r13_0 r13_1 r13_2 r13_3 r13_4 r13_5 r13_6 r13_7 r13_8 r13_9 r13_10 r13_11 r13_12 r13_13 r13_14 r13_15 r13_16 r13_17 r13_18 r13_19 r13_20 r13_21 r13_22 r13_23 r13_24 r13_25 r13_26
    repeat' (first | refine len_sl rfl lel ?_ | refine call0 cw ?_ | refine w_seq ?_ | refine w_ops ?_ | refine st_nil ?_ | refine th_n ?_ | refine th_r ?_ | refine w_ret ?_ | refine w_true rfl ?_ | refine mv_c rfl ?_ | refine gtr_t rfl rfl (by omega) ?_ | refine box_ rfl rfl rfl (fun u => ?_))
    exact fin_r rfl rfl
theorem L_CellSpoilt (c0 : CV) (h0 : LF.Ok .bool c0) (c1 : CV) (h1 : LF.Ok (.sl [.int .u8, .int .u8, .int .u8, .int .u8, .int .i64, .int .i64]) c1) (c2 : List CV) (h2 : OkL [.int .u8, .int .i64] c2) :
    PCallG Try.prog 13 [.c c0, .c c1, .c (.agg c2)] (.c (.bool true)) [] := by
  obtain ⟨two, rfl⟩ := ok_bool h0
  obtain ⟨l, rfl, rl, hl⟩ := ok_rows h1
  obtain ⟨hl2, he⟩ := h2
  match c2, hl2, he with
  | [x0, x1], _, he =>
    obtain ⟨how, rfl, q0⟩ := ok_u8 (he 0 (by simp) (by simp))
    obtain ⟨b, rfl, q1⟩ := ok_i64 (he 1 (by simp) (by simp))
    exact C_CellSpoilt two l how b rl hl q0 q1
end Go.Proofs.Ytcmejdkjfekoeaa

/- Part of the proof of CellMean, CellOrder, CellJoins, CellLines, CellTells: lemmas. -/
import Derived.Test.YtcmejdkjfekoeaaCellS6
import Derived.Test.YtcmejdkjfekoeaaCellS7
import Derived.Test.YtcmejdkjfekoeaaCellS8
set_option linter.unusedVariables false
set_option linter.unusedSimpArgs false
namespace Go.Proofs.Ytcmejdkjfekoeaa
open Go.Pl Go.Bag
set_option maxHeartbeats 8000000
theorem ofL_313 : ofL [3, 1, 3] = [(1, 1), (3, 2)] := (ofL_ext (by simp [asc]) (by intro q hq; simp at hq; rcases hq with rfl | rfl <;> decide) (fun v => by simp only [cnt, num_cons, num_nil]; omega)).symm
theorem ofL_3 : ofL [3] = [(3, 1)] := (ofL_ext (by simp [asc]) (by intro q hq; simp at hq; subst hq; decide) (fun v => by simp only [cnt, num_cons, num_nil]; omega)).symm
theorem ofL_11 : ofL [1, 1] = [(1, 2)] := (ofL_ext (by simp [asc]) (by intro q hq; simp at hq; subst hq; decide) (fun v => by simp only [cnt, num_cons, num_nil]; omega)).symm
theorem C_wakes8 : PCallG Try.prog 20 [] (.c (.bool true)) [] := by
  refine pcallF Try.func20 c20 rfl ?_
  have h1 := C_Of [3, 1, 3] (by decide)
  have h2 := C_Of [3] (by decide)
  have h3 := C_Of [1, 1] (by decide)
  rw [ofL_313] at h1
  rw [ofL_3] at h2
  rw [ofL_11] at h3
  have h4 : PCallG Try.prog 31 [.c (encL [(1, 1), (3, 2)])] (.c (.tup [.int .i64 7, .bool true])) [] := C_Sum [(1, 1), (3, 2)] (by decide) (by intro q hq; simp at hq; rcases hq with rfl | rfl <;> decide)
  have h5 : PCallG Try.prog 24 [.c (encL [(1, 1), (3, 2)]), .c (encL [(3, 1)])] (.c (.tup [encL [(1, 1), (3, 1)], .bool true])) [] := C_Minus [(1, 1), (3, 2)] [(3, 1)] (by decide) (by decide)
  have h6 : PCallG Try.prog 24 [.c (encL [(1, 1), (3, 2)]), .c (encL [(1, 2)])] (.c (.tup [encL [], .bool false])) [] := C_Minus [(1, 1), (3, 2)] [(1, 2)] (by decide) (by decide)
  have h7 : PCallG Try.prog 30 [.c (encL [(1, 1), (3, 1)]), .c (.int .i64 3)] (.c (.int .i64 1)) [] := C_Has [(1, 1), (3, 1)] 3 (by decide)
  have h8 : PCallG Try.prog 26 [.c (encL [(1, 1), (3, 2)])] (.c (.bool true)) [] := C_good [(1, 1), (3, 2)] (by decide)
  have h9 : PCallG Try.prog 27 [.c (encL [(1, 1), (3, 2)])] (.c (.int .i64 3)) [] := C_Count [(1, 1), (3, 2)] (by decide)
  have h10 : PCallG Try.prog 26 [.c (encL [(1, 0)])] (.c (.bool false)) [] := C_good [(1, 0)] (by decide)
  have g1 : ([(1, 1), (3, 2)].map encR)[(1 : Int).toNat]? = some (encR (3, 2)) := rfl
  unfold p20 r20_0 r20_1 r20_2 r20_3 r20_4 r20_5
  repeat' (first
    | refine call1 rfl h1 ?_
    | refine call1 rfl h2 ?_
    | refine call1 rfl h3 ?_
    | refine call1 rfl h4 ?_
    | refine call2 rfl rfl h5 ?_
    | refine call2 rfl rfl h6 ?_
    | refine call2 rfl rfl h7 ?_
    | refine call1 rfl h8 ?_
    | refine call1 rfl h9 ?_
    | refine call1 rfl h10 ?_
    | refine eqs_t rfl rfl rfl ?_
    | refine len_sl (es := [(1, 1), (3, 2)].map encR) rfl rfl ?_
    | refine w_seq ?_
    | refine w_ops ?_
    | refine st_nil ?_
    | refine th_n ?_
    | refine w_ret ?_
    | refine g_yes rfl ?_
    | refine mv_c rfl ?_
    | refine pick_t rfl rfl ?_
    | refine eql_t rfl rfl (by omega) ?_
    | refine eqd_ rfl rfl ?_
    | refine not_ rfl ?_
    | refine build_ rfl rfl ?_
    | refine bsl_ rfl rfl ?_
    | refine load_rp rfl (Nat.le_of_ble_eq_true rfl) rfl ?_
    | refine iaS_c rfl rfl (by omega) (by assumption) rfl ?_
    | refine ext_ rfl rfl ?_)
  exact fin_r rfl rfl
end Go.Proofs.Ytcmejdkjfekoeaa
namespace Go.Proofs.Ytcmejdkjfekoeaa
open Go.Pl Go.Bag
set_option maxHeartbeats 8000000
theorem get_int {l : List Int} {i : Nat} {a : Int} {rest : List Int} (hd : l.drop i = a :: rest) : (l.map encI)[i]? = some (encI a) := by
  have : l[i]? = some a := by have := congrArg List.head? hd; simpa [List.head?_drop] using this
  simp [this]
theorem get_ilen {l : List Int} {i : Nat} {a : Int} {rest : List Int} (hd : l.drop i = a :: rest) : i < l.length := by
  have := congrArg List.length hd; simp at this; omega
theorem get_inext {l : List Int} {i : Nat} {a : Int} {rest : List Int} (hd : l.drop i = a :: rest) : l.drop (i + 1) = rest := by
  have := congrArg List.tail hd; simpa [List.tail_drop] using this
theorem get_iend {l : List Int} {i : Nat} (hd : l.drop i = []) (hi : i ≤ l.length) : i = l.length := by
  have := List.drop_eq_nil_iff.mp hd; omega
theorem ends_in {C : CallP} {K : Ex → PS → Prop} (l : List Int) (hlen : l.length ≤ 60) (v3 v4 : PV) : ∀ (rest : List Int) (k : Nat) (lo hi : Int) (s : PS), l.drop k = rest → k ≤ l.length →
    s.t 0 = .c (encIL l) → s.t 3 = v3 → s.t 4 = v4 → s.t 5 = .c (.int .i64 lo) → s.t 6 = .c (.int .i64 hi) → s.t 7 = .c (.int .i64 k) →
    (∀ s', s'.t 0 = .c (encIL l) → s'.t 3 = v3 → s'.t 4 = v4 → s'.t 5 = .c (.int .i64 (loF lo rest)) → s'.t 6 = .c (.int .i64 (hiF hi rest)) → K (.x 2) s') → wP C (.loop b3_1) s K := by
  intro rest
  induction rest with
  | nil =>
    intro k lo hi s hd hk t0 t3 t4 t5 t6 t7 hx
    refine w_loop ?_
    have hk' := get_iend hd hk
    subst hk'
    rw [← put_same t0, ← put_same t3, ← put_same t4, ← put_same t5, ← put_same t6, ← put_same t7]
    unfold b3_1 r3_9 r3_10 r3_11
    repeat' (first
      | refine len_sl rfl (List.length_map _) ?_
      | refine w_seq ?_
      | refine w_ops ?_
      | refine st_nil ?_
      | refine th_n ?_
      | refine th_x ?_
      | refine w_exit ?_
      | refine w_false rfl ?_
      | refine mv_c rfl ?_
      | refine lss_f rfl rfl (by omega) ?_)
    exact hx _ rfl rfl rfl rfl rfl
  | cons a rest ih =>
    intro k lo hi s hd hk t0 t3 t4 t5 t6 t7 hx
    refine w_loop ?_
    have he := get_int hd
    have hl := get_ilen hd
    rw [← put_same t0, ← put_same t3, ← put_same t4, ← put_same t5, ← put_same t6, ← put_same t7]
    unfold b3_1 r3_9 r3_10 r3_11
    repeat' (first
      | refine len_sl rfl (List.length_map _) ?_
      | refine w_seq ?_
      | refine w_ops ?_
      | refine w_opsD0 rfl ?_
      | refine st_nil ?_
      | refine th_n ?_
      | refine bk_n ?_
      | refine w_block ?_
      | refine w_skip ?_
      | refine w_true rfl ?_
      | refine mv_c rfl ?_
      | refine lss_t rfl rfl (by omega) ?_
      | refine add_in rfl rfl (by omega) ?_
      | refine load_rp rfl (Nat.le_of_ble_eq_true rfl) rfl ?_
      | refine iaS_c rfl rfl (by omega) (by assumption) rfl ?_
      | refine mm_min rfl rfl ?_
      | refine mm_max rfl rfl ?_)
    exact ih (k + 1) _ _ _ (get_inext hd) (by omega) (by rfl) (by rfl) (by rfl) (by rfl) (by rfl) (by rfl) hx
theorem ends_loop {K : Ex → PS → Prop} (l : List Int) (hlen : l.length ≤ 60) : ∀ (rest : List Int) (i : Nat) (s : PS), l.drop i = rest → i ≤ l.length →
    s.t 0 = .c (encIL l) → s.t 3 = .c (encL (ofL rest)) → s.t 4 = .c (.int .i64 i) →
    (∀ s', s'.t 3 = .c (encL []) → K (.x 0) s') → wP (PCallG Try.prog) (.loop b3_0) s K := by
  intro rest
  induction rest with
  | nil =>
    intro i s hd hi t0 t3 t4 hx
    refine w_loop ?_
    have hi' := get_iend hd hi
    subst hi'
    rw [ofL_nil] at t3
    rw [← put_same t0, ← put_same t3, ← put_same t4]
    unfold b3_0 r3_5 r3_6 r3_7 r3_8 r3_12 r3_13 r3_14 r3_15 r3_16 r3_17 r3_18 r3_19
    repeat' (first
      | refine len_sl rfl (List.length_map _) ?_
      | refine w_seq ?_
      | refine w_ops ?_
      | refine st_nil ?_
      | refine th_n ?_
      | refine th_x ?_
      | refine w_exit ?_
      | refine w_false rfl ?_
      | refine mv_c rfl ?_
      | refine lss_f rfl rfl (by omega) ?_)
    exact hx _ rfl
  | cons a rest ih =>
    intro i s hd hi t0 t3 t4 hx
    refine w_loop ?_
    have he := get_int hd
    have hl := get_ilen hd
    have hlr : rest.length ≤ 60 := by
      have := congrArg List.length hd
      simp at this; omega
    have hlo := (ofL_facts (a :: rest)).2.2.2.2
    simp only [List.length_cons] at hlo
    have hg : good (ofL (a :: rest)) = true := good_ofL (by simp; omega)
    have h1 : PCallG Try.prog 22 [.c (encL (ofL (a :: rest)))] (.c (.tup [.int .i64 (loF a (a :: rest)), .bool true])) [] := by
      have := C_Least (ofL (a :: rest)) (by omega)
      obtain ⟨r, k, e1, e2⟩ := ofL_head a rest
      have e : endB (ofL (a :: rest)) false = (loF a (a :: rest), true) := by
        simp only [endB, hg, if_true, Bool.false_eq_true, if_false]
        rw [e1, ← e2]; rfl
      rw [e] at this; exact this
    have h2 : PCallG Try.prog 23 [.c (encL (ofL (a :: rest)))] (.c (.tup [.int .i64 (hiF a (a :: rest)), .bool true])) [] := by
      have := C_Greatest (ofL (a :: rest)) (by omega)
      obtain ⟨r, k, e1, e2⟩ := ofL_last a rest
      have e : endB (ofL (a :: rest)) true = (hiF a (a :: rest), true) := by
        simp only [endB, hg, if_true]
        rw [e1, ← e2]; simp
      rw [e] at this; exact this
    have h3 : PCallG Try.prog 21 [.c (encIL [a])] (.c (encL (ofL [a]))) [] := C_Of [a] (by simp)
    have h4 : PCallG Try.prog 24 [.c (encL (ofL (a :: rest))), .c (encL (ofL [a]))] (.c (.tup [encL (ofL rest), .bool true])) [] := by
      have := C_Minus (ofL (a :: rest)) (ofL [a]) (by omega) (by have := (ofL_facts [a]).2.2.2.2; simp at this; omega)
      rw [minus_ofL (by omega)] at this; exact this
    have hn := get_inext hd
    rw [← put_same t0, ← put_same t3, ← put_same t4]
    unfold b3_0 r3_5 r3_6 r3_7 r3_8 r3_12 r3_13 r3_14 r3_15 r3_16 r3_17 r3_18 r3_19
    repeat' (first
      | refine len_sl rfl (List.length_map _) ?_
      | refine w_seq ?_
      | refine w_ops ?_
      | refine w_opsD0 rfl ?_
      | refine st_nil ?_
      | refine th_n ?_
      | refine w_block ?_
      | refine w_skip ?_
      | refine w_true rfl ?_
      | refine mv_c rfl ?_
      | refine lss_t rfl rfl (by omega) ?_
      | refine load_rp rfl (Nat.le_of_ble_eq_true rfl) rfl ?_
      | refine iaS_c rfl rfl (by omega) (by assumption) rfl ?_)
    refine ends_in l hlen _ _ (a :: rest) i a a _ hd (by omega) (by rfl) (by rfl) (by rfl) (by rfl) (by rfl) (by rfl) ?_
    intro s' u0 u3 u4 u5 u6
    rw [← put_same u0, ← put_same u3, ← put_same u4, ← put_same u5, ← put_same u6]
    repeat' (first
      | refine call1 rfl h1 ?_
      | refine call1 rfl h2 ?_
      | refine call1 rfl h3 ?_
      | refine call2 rfl rfl h4 ?_
      | refine w_seq ?_
      | refine w_ops ?_
      | refine st_nil ?_
      | refine th_n ?_
      | refine bk_n ?_
      | refine bk_x ?_
      | refine w_skip ?_
      | refine w_false rfl ?_
      | refine g_yes rfl ?_
      | refine mv_c rfl ?_
      | refine pick_f rfl rfl ?_
      | refine neq_f rfl rfl (by omega) ?_
      | refine not_ rfl ?_
      | refine add_in rfl rfl (by omega) ?_
      | refine bsl_ rfl rfl ?_
      | refine load_rp rfl (Nat.le_of_ble_eq_true rfl) rfl ?_
      | refine iaS_c rfl rfl (by omega) (by assumption) rfl ?_
      | refine ext_ rfl rfl ?_)
    exact ih (i + 1) _ hn (by omega) (by rfl) (by rfl) (by rfl) hx
theorem C_BagEnds (l : List Int) (hmax : l.length ≤ 9223372036854775807) : PCallG Try.prog 3 [.c (encIL l)] (.c (.bool true)) [] := by
  refine pcallF Try.func3 c3 rfl ?_
  have hw := C_wakes8
  have h0 : PCallG Try.prog 22 [.c (encL [])] (.c (.tup [.int .i64 0, .bool false])) [] := C_Least [] (by decide)
  unfold p3 r3_0 r3_1 r3_2 r3_3 r3_4 r3_20 r3_21
  by_cases hlen : l.length ≤ 60
  · have h1 := C_Of l (by omega)
    repeat' (first
      | refine len_sl rfl (List.length_map _) ?_
      | refine call1 rfl h1 ?_
      | refine w_seq ?_
      | refine w_ops ?_
      | refine st_nil ?_
      | refine th_n ?_
      | refine w_block ?_
      | refine w_skip ?_
      | refine w_false rfl ?_
      | refine mv_c rfl ?_
      | refine gtr_f rfl rfl (by omega) ?_)
    refine ends_loop l hlen l 0 _ rfl (by omega) (by rfl) (by rfl) (by rfl) ?_
    intro s' t3
    rw [← put_same t3]
    repeat' (first
      | refine call1 rfl h0 ?_
      | refine call0 hw ?_
      | refine w_seq ?_
      | refine w_ops ?_
      | refine st_nil ?_
      | refine th_n ?_
      | refine bk_x ?_
      | refine w_ret ?_
      | refine g_yes rfl ?_
      | refine mv_c rfl ?_
      | refine pick_t rfl rfl ?_
      | refine eqd_ rfl rfl ?_
      | refine not_ rfl ?_
      | refine ext_ rfl rfl ?_
      | refine len_sl rfl (by first | assumption | exact List.length_map _) ?_)
    exact fin_r rfl rfl
  · repeat' (first
    | refine len_sl rfl (List.length_map _) ?_
    | refine call0 hw ?_
    | refine w_seq ?_
    | refine w_ops ?_
    | refine st_nil ?_
    | refine th_n ?_
    | refine th_r ?_
    | refine w_ret ?_
    | refine w_true rfl ?_
    | refine mv_c rfl ?_
    | refine gtr_t rfl rfl (by omega) ?_)
    exact fin_r rfl rfl
/-- what a slice of int64 is, as a row hands it in -/
theorem ok_ints {c : CV} (h : LF.Ok (.sl [.int .i64]) c) : ∃ l, c = encIL l ∧ I64s l ∧ l.length ≤ 9223372036854775807 := by
  cases h with
  | sl _ es hn hl hh =>
    have : ∀ e ∈ es, ∃ a, e = encI a ∧ I64 a := fun e he => by
      have h1 := hl e he
      match e, h1, hh e he with
      | [c], _, hh =>
        have := hh 0 (by simp) (by simp)
        cases this with
        | int _ a hw => exact ⟨a, rfl, by simpa [Lit.wf, IntKind.min, IntKind.max, IntKind.signed, IntKind.bits, I64] using hw⟩
    clear hl hh
    have : ∃ l, es = l.map encI ∧ I64s l := by
      induction es with
      | nil => exact ⟨[], rfl, fun a ha => by simp at ha⟩
      | cons e es ih =>
        obtain ⟨a, rfl, ha⟩ := this e (by simp)
        obtain ⟨l, rfl, hl⟩ := ih (by simp at hn; omega) (fun q hq => this q (by simp [hq]))
        exact ⟨a :: l, rfl, fun b hb => by
          rcases List.mem_cons.mp hb with rfl | hb
          · exact ha
          · exact hl b hb⟩
    obtain ⟨l, rfl, hl⟩ := this
    exact ⟨l, rfl, hl, by simpa [maxLen] using hn⟩
theorem L_BagEnds (c : CV) (h : LF.Ok (.sl [.int .i64]) c) : PCallG Try.prog 3 [.c c] (.c (.bool true)) [] := by
  obtain ⟨l, rfl, _, hl⟩ := ok_ints h
  exact C_BagEnds l hl
end Go.Proofs.Ytcmejdkjfekoeaa
namespace Go.Proofs.Ytcmejdkjfekoeaa
open Go.Pl Go.Bag
set_option maxHeartbeats 8000000
theorem rof_loop {K : Ex → PS → Prop} (l : List Int) (hlen : l.length < 1000000) : ∀ (rest : List Int) (i : Nat) (out : List Run) (s : PS), l.drop i = rest → i ≤ l.length → asc out → pos out → out.length ≤ i → sum out = i →
    s.t 0 = .c (encIL l) → s.t 3 = .c (encL out) → s.t 4 = .c (.int .i64 i) →
    (∀ s', s'.t 3 = .c (encL (rofS out rest)) → K (.x 0) s') → wP (PCallG Try.prog) (.loop b33_0) s K := by
  intro rest
  induction rest with
  | nil =>
    intro i out s hd hi ha hp hl hs t0 t3 t4 hx
    refine w_loop ?_
    have hi' := get_iend hd hi
    subst hi'
    rw [← put_same t0, ← put_same t3, ← put_same t4]
    unfold b33_0 r33_3 r33_4 r33_5
    repeat' (first
      | refine len_sl rfl (List.length_map _) ?_
      | refine w_seq ?_
      | refine w_ops ?_
      | refine st_nil ?_
      | refine th_n ?_
      | refine th_x ?_
      | refine w_exit ?_
      | refine w_false rfl ?_
      | refine mv_c rfl ?_
      | refine lss_f rfl rfl (by omega) ?_)
    exact hx _ rfl
  | cons a rest ih =>
    intro i out s hd hi ha hp hl hs t0 t3 t4 hx
    refine w_loop ?_
    have he := get_int hd
    have hil := get_ilen hd
    have hn := get_inext hd
    have hM := C_Lay out a 1 (by omega) fun q hq => by have := le_sum hp q hq; omega
    obtain ⟨f1, f2, f3, f4, f5⟩ := lay_facts out a 1
    obtain ⟨g1, g2⟩ := lay_pos (v := a) (n := 1) ha hp (by decide) (by have := cnt_nonneg a hp; omega)
    rw [← put_same t0, ← put_same t3, ← put_same t4]
    unfold b33_0 r33_3 r33_4 r33_5
    repeat' (first
      | refine len_sl rfl (List.length_map _) ?_
      | refine call3 rfl rfl rfl hM ?_
      | refine w_seq ?_
      | refine w_ops ?_
      | refine st_nil ?_
      | refine th_n ?_
      | refine bk_n ?_
      | refine w_block ?_
      | refine w_skip ?_
      | refine w_true rfl ?_
      | refine mv_c rfl ?_
      | refine lss_t rfl rfl (by omega) ?_
      | refine add_in rfl rfl (by omega) ?_
      | refine load_rp rfl (Nat.le_of_ble_eq_true rfl) rfl ?_
      | refine iaS_c rfl rfl (by omega) (by assumption) rfl ?_)
    exact ih (i + 1) (lay out a 1) _ hn (by omega) g1 g2 (by omega) (by omega) (by rfl) (by rfl) (by rfl) hx
theorem C_rOf (l : List Int) (hlen : l.length < 1000000) : PCallG Try.prog 33 [.c (encIL l)] (.c (encL (ofL l))) [] := by
  refine pcallF Try.func33 c33 rfl ?_
  rw [← rofS_ofL]
  unfold p33 r33_0 r33_1 r33_2 r33_6
  repeat' (first
    | refine w_seq ?_
    | refine w_ops ?_
    | refine st_nil ?_
    | refine th_n ?_
    | refine w_block ?_
    | refine mv_c rfl ?_)
  refine rof_loop l hlen l 0 [] _ rfl (by omega) (by simp [asc]) (fun q hq => by simp at hq) (by simp) (by simp [sum]) (by rfl) (by rfl) (by rfl) ?_
  intro s' t3
  rw [← put_same t3]
  repeat' (first
    | refine w_seq ?_
    | refine w_ops ?_
    | refine st_nil ?_
    | refine th_n ?_
    | refine bk_x ?_
    | refine w_ret ?_
    | refine mv_c rfl ?_)
  exact fin_r rfl rfl
/-- the document's bag, if there is one -/
def bagV (p : List Run × Bool) : CV := .agg [encL p.1, .bool p.2]
theorem rjoin_loop {K : Ex → PS → Prop} (b : List Run) (hlen : b.length < 1000000) (v4 : Nat) (c4 : List CV) : ∀ (rest : List Run) (i : Nat) (out : List Run) (s : PS), b.drop i = rest → i ≤ b.length → asc out → pos out → out.length ≤ 1000000 + i → pos rest → sum out + sum rest ≤ 1099511627776 →
    s.t 1 = .c (encL b) → s.t 5 = .c (encL out) → s.t 6 = .c (.int .i64 i) → s.t 4 = .ptr 4 v4 0 → s.bx 4 = ⟨v4, .var c4⟩ →
    (∀ s', s'.t 5 = .c (encL (layS out rest)) → s'.t 4 = .ptr 4 v4 0 → s'.bx 4 = ⟨v4, .var c4⟩ → K (.x 0) s') → wP (PCallG Try.prog) (.loop b39_0) s K := by
  intro rest
  induction rest with
  | nil =>
    intro i out s hd hi ha hp hl hr hs t1 t5 t6 t4 b4 hx
    refine w_loop ?_
    have hi' := get_end hd hi
    subst hi'
    rw [← put_same t1, ← put_same t5, ← put_same t6, ← put_same t4, ← box_same b4]
    unfold b39_0 r39_5 r39_6 r39_7
    repeat' (first
      | refine len_sl rfl (List.length_map _) ?_
      | refine w_seq ?_
      | refine w_ops ?_
      | refine st_nil ?_
      | refine th_n ?_
      | refine th_x ?_
      | refine w_exit ?_
      | refine w_false rfl ?_
      | refine mv_c rfl ?_
      | refine lss_f rfl rfl (by omega) ?_)
    exact hx _ rfl rfl rfl
  | cons r rest ih =>
    intro i out s hd hi ha hp hl hr hs t1 t5 t6 t4 b4 hx
    refine w_loop ?_
    have he := get_enc hd
    have hil := get_len hd
    have hn := get_next hd
    have hr1 := hr r (by simp)
    have hr2 : pos rest := fun q hq => hr q (by simp [hq])
    have hs0 := sum_nonneg hr2
    have hs1 := sum_nonneg hp
    simp only [sum] at hs
    have hM := C_Lay out r.1 r.2 (by omega) fun q hq => by have := le_sum hp q hq; omega
    obtain ⟨f1, f2, f3, f4, f5⟩ := lay_facts out r.1 r.2
    obtain ⟨g1, g2⟩ := lay_pos (v := r.1) (n := r.2) ha hp (by omega) (by have := cnt_nonneg r.1 hp; omega)
    rw [← put_same t1, ← put_same t5, ← put_same t6, ← put_same t4, ← box_same b4]
    unfold b39_0 r39_5 r39_6 r39_7
    repeat' (first
      | refine len_sl rfl (List.length_map _) ?_
      | refine call3 rfl rfl rfl hM ?_
      | refine w_seq ?_
      | refine w_ops ?_
      | refine w_opsD0 rfl ?_
      | refine st_nil ?_
      | refine th_n ?_
      | refine bk_n ?_
      | refine w_block ?_
      | refine w_skip ?_
      | refine w_true rfl ?_
      | refine mv_c rfl ?_
      | refine lss_t rfl rfl (by omega) ?_
      | refine add_in rfl rfl (by omega) ?_
      | refine load_rp rfl (Nat.le_of_ble_eq_true rfl) rfl ?_
      | refine fad_rp rfl (Nat.le_of_ble_eq_true rfl) rfl ?_
      | refine iaS_c rfl rfl (by omega) (by assumption) rfl ?_)
    exact ih (i + 1) (lay out r.1 r.2) _ hn (by omega) g1 g2 (by omega) hr2 (by omega) (by rfl) (by rfl) (by rfl) (by rfl) (by rfl) hx
theorem C_rJoin (a b : List Run) (ha : a.length ≤ 1000000) (hb : b.length < 1000000) : PCallG Try.prog 39 [.c (encL a), .c (encL b)] (.c (bagV (join a b))) [] := by
  refine pcallF Try.func39 c39 rfl ?_
  have h0 : cap = 1099511627776 := rfl
  have c1 := C_rGood a (by omega)
  have c2 := C_rGood b (by omega)
  have c3 := C_rCount a (by omega)
  have c4 := C_rCount b (by omega)
  unfold p39 r39_0 r39_1 r39_2 r39_3 r39_4 r39_8
  cases ga : good a with
  | false =>
    rw [ga] at c1
    rw [join_no (by simp [ga])]
    repeat' (first
      | refine call1 rfl c1 ?_
      | refine w_seq ?_
      | refine w_ops ?_
      | refine st_nil ?_
      | refine th_n ?_
      | refine th_r ?_
      | refine w_ret ?_
      | refine w_true rfl ?_
      | refine g_no rfl ?_
      | refine mv_c rfl ?_
      | refine pick_t rfl rfl ?_
      | refine not_ rfl ?_
      | refine alloc_ (fun u => ?_)
      | refine build_ rfl rfl ?_
      | refine store_ptr rfl rfl (by decide) rfl rfl (Nat.le_of_ble_eq_true rfl) rfl ?_)
    exact fin_r (rv_cell rfl rfl rfl rfl rv_nil) rfl
  | true =>
    cases gb : good b with
    | false =>
      rw [ga] at c1
      rw [gb] at c2
      rw [join_no (by simp [gb])]
      repeat' (first
        | refine call1 rfl c1 ?_
        | refine call1 rfl c2 ?_
        | refine w_seq ?_
        | refine w_ops ?_
        | refine st_nil ?_
        | refine th_n ?_
        | refine th_r ?_
        | refine w_ret ?_
        | refine w_true rfl ?_
        | refine g_yes rfl ?_
        | refine g_no rfl ?_
        | refine mv_c rfl ?_
        | refine pick_t rfl rfl ?_
        | refine pick_f rfl rfl ?_
        | refine not_ rfl ?_
        | refine alloc_ (fun u => ?_)
        | refine build_ rfl rfl ?_
        | refine store_ptr rfl rfl (by decide) rfl rfl (Nat.le_of_ble_eq_true rfl) rfl ?_)
      exact fin_r (rv_cell rfl rfl rfl rfl rv_nil) rfl
    | true =>
      rw [ga] at c1 c3
      rw [gb] at c2 c4
      rw [if_pos rfl] at c3 c4
      obtain ⟨a1, a2, a3⟩ := good_iff.mp ga
      obtain ⟨b1, b2, b3⟩ := good_iff.mp gb
      have na := sum_nonneg a2
      have nb := sum_nonneg b2
      by_cases hs : sum a + sum b ≤ 1099511627776
      · rw [layS_join ga gb (by omega)]
        repeat' (first
          | refine call1 rfl c1 ?_
          | refine call1 rfl c2 ?_
          | refine call1 rfl c3 ?_
          | refine call1 rfl c4 ?_
          | refine w_seq ?_
          | refine w_ops ?_
          | refine st_nil ?_
          | refine th_n ?_
          | refine w_block ?_
          | refine w_skip ?_
          | refine w_false rfl ?_
          | refine g_yes rfl ?_
          | refine mv_c rfl ?_
          | refine pick_f rfl rfl ?_
          | refine gtr_f rfl rfl (by omega) ?_
          | refine not_ rfl ?_
          | refine add_in rfl rfl (by omega) ?_
          | refine alloc_ (fun u => ?_))
        refine rjoin_loop b hb _ _ b 0 a _ rfl (by omega) a1 a2 (by omega) b2 hs (by rfl) (by rfl) (by rfl) (by rfl) (by rfl) ?_
        intro s' u5 u4 w4
        rw [← put_same u5, ← put_same u4, ← box_same w4]
        repeat' (first
          | refine w_seq ?_
          | refine w_ops ?_
          | refine st_nil ?_
          | refine th_n ?_
          | refine bk_x ?_
          | refine w_ret ?_
          | refine mv_c rfl ?_
          | refine build_ rfl rfl ?_
          | refine store_ptr rfl rfl (by decide) rfl rfl (Nat.le_of_ble_eq_true rfl) rfl ?_)
        exact fin_r (rv_cell rfl rfl rfl rfl rv_nil) rfl
      · rw [join_no (by omega)]
        repeat' (first
          | refine call1 rfl c1 ?_
          | refine call1 rfl c2 ?_
          | refine call1 rfl c3 ?_
          | refine call1 rfl c4 ?_
          | refine w_seq ?_
          | refine w_ops ?_
          | refine st_nil ?_
          | refine th_n ?_
          | refine th_r ?_
          | refine w_ret ?_
          | refine w_true rfl ?_
          | refine g_yes rfl ?_
          | refine mv_c rfl ?_
          | refine pick_f rfl rfl ?_
          | refine gtr_t rfl rfl (by omega) ?_
          | refine not_ rfl ?_
          | refine add_in rfl rfl (by omega) ?_
          | refine alloc_ (fun u => ?_)
          | refine build_ rfl rfl ?_
          | refine store_ptr rfl rfl (by decide) rfl rfl (Nat.le_of_ble_eq_true rfl) rfl ?_)
        exact fin_r (rv_cell rfl rfl rfl rfl rv_nil) rfl
theorem rmin_loop {K : Ex → PS → Prop} (a b : List Run) (halen : a.length ≤ 1000000) (hlen : b.length < 1000000) (ga : good a = true) (v4 : Nat) (c4 : List CV) (hc4 : c4.length = 2) : ∀ (rest : List Run) (i : Nat) (out pre : List Run) (s : PS), b.drop i = rest → i ≤ b.length → pre ++ rest = b → asc b → pos b → (∀ r ∈ rest, r.2 ≤ 1099511627776) → asc out → pos out → sum out ≤ 1099511627776 → out.length ≤ 1000000 + i →
    (∀ v, cnt out v = cnt a v - cnt pre v) →
    s.t 0 = .c (encL a) → s.t 1 = .c (encL b) → s.t 5 = .c (encL out) → s.t 6 = .c (.int .i64 i) → s.t 4 = .ptr 4 v4 0 → s.bx 4 = ⟨v4, .var c4⟩ →
    (∀ o s', rminL a out rest = some o → s'.t 5 = .c (encL o) → s'.t 4 = .ptr 4 v4 0 → s'.bx 4 = ⟨v4, .var c4⟩ → K (.x 0) s') →
    (∀ s', rminL a out rest = none → s'.t 4 = .ptr 4 v4 0 → s'.bx 4 = ⟨v4, .var [.sl [], .bool false]⟩ → K .r s') → wP (PCallG Try.prog) (.loop b40_0) s K := by
  obtain ⟨a1, a2, a3⟩ := good_iff.mp ga
  obtain ⟨x, y, rfl⟩ : ∃ x y, c4 = [x, y] := by
    match c4, hc4 with
    | [x, y], _ => exact ⟨x, y, rfl⟩
  intro rest
  induction rest with
  | nil =>
    intro i out pre s hd hi hpr hab hpb hcap ha hp hsu hl hcn t0 t1 t5 t6 t4 b4 hx hr
    refine w_loop ?_
    have hi' := get_end hd hi
    subst hi'
    rw [← put_same t1, ← put_same t5, ← put_same t6, ← put_same t4, ← box_same b4]
    unfold b40_0 r40_5 r40_6 r40_7 r40_8 r40_9
    repeat' (first
      | refine len_sl rfl (List.length_map _) ?_
      | refine w_seq ?_
      | refine w_ops ?_
      | refine st_nil ?_
      | refine th_n ?_
      | refine th_x ?_
      | refine w_exit ?_
      | refine w_false rfl ?_
      | refine mv_c rfl ?_
      | refine lss_f rfl rfl (by omega) ?_)
    exact hx out _ rfl rfl rfl rfl
  | cons r rest ih =>
    intro i out pre s hd hi hpr hab hpb hcap ha hp hsu hl hcn t0 t1 t5 t6 t4 b4 hx hr
    refine w_loop ?_
    have he := get_enc hd
    have hil := get_len hd
    have hn := get_next hd
    have hr0 : 1 ≤ r.2 := hpb r (by rw [← hpr]; simp)
    have hr1 : r.2 ≤ 1099511627776 := hcap r (by simp)
    have hH : PCallG Try.prog 38 [.c (encL a), .c (.int .i64 r.1)] (.c (.int .i64 (cnt a r.1))) [] := by
      have := C_rHas a r.1 (by omega)
      rw [ga, if_pos rfl, has_cnt r.1 a1] at this
      exact this
    rw [← put_same t0, ← put_same t1, ← put_same t5, ← put_same t6, ← put_same t4, ← box_same b4]
    unfold b40_0 r40_5 r40_6 r40_7 r40_8 r40_9
    by_cases hlt : cnt a r.1 < r.2
    · have e : rminL a out (r :: rest) = none := by simp [rminL, hlt]
      repeat' (first
        | refine len_sl rfl (List.length_map _) ?_
        | refine call2 rfl rfl hH ?_
        | refine w_seq ?_
        | refine w_ops ?_
        | refine w_opsD0 rfl ?_
        | refine st_nil ?_
        | refine th_n ?_
        | refine th_r ?_
        | refine bk_r ?_
        | refine w_block ?_
        | refine w_skip ?_
        | refine w_ret ?_
        | refine w_true rfl ?_
        | refine mv_c rfl ?_
        | refine lss_t rfl rfl (by omega) ?_
        | refine build_ rfl rfl ?_
        | refine load_rp rfl (Nat.le_of_ble_eq_true rfl) rfl ?_
        | refine store_ptr rfl rfl (by decide) rfl rfl (Nat.le_of_ble_eq_true rfl) rfl ?_
        | refine fad_rp rfl (Nat.le_of_ble_eq_true rfl) rfl ?_
        | refine iaS_c rfl rfl (by omega) (by assumption) rfl ?_)
      exact hr _ e rfl rfl
    · have e : rminL a out (r :: rest) = rminL a (lay out r.1 (-r.2)) rest := by simp [rminL, hlt]
      rw [e] at hx hr
      have hM := C_Lay out r.1 (-r.2) (by omega) fun q hq => by have := le_sum hp q hq; omega
      obtain ⟨f1, f2, f3, f4, f5⟩ := lay_facts out r.1 (-r.2)
      have hpre : cnt pre r.1 = 0 := cnt_none fun q hq => by
        rw [← hpr] at hab
        have := (List.pairwise_append.mp hab).2.2 q hq r (by simp)
        omega
      obtain ⟨g1, g2⟩ := lay_pos (v := r.1) (n := -r.2) ha hp (by omega) (by rw [hcn]; omega)
      repeat' (first
        | refine len_sl rfl (List.length_map _) ?_
        | refine call2 rfl rfl hH ?_
        | refine call3 rfl rfl rfl hM ?_
        | refine w_seq ?_
        | refine w_ops ?_
        | refine w_opsD0 rfl ?_
        | refine st_nil ?_
        | refine th_n ?_
        | refine bk_n ?_
        | refine w_block ?_
        | refine w_skip ?_
        | refine w_true rfl ?_
        | refine w_false rfl ?_
        | refine mv_c rfl ?_
        | refine lss_t rfl rfl (by omega) ?_
        | refine lss_f rfl rfl (by omega) ?_
        | refine neg_in rfl (by omega) ?_
        | refine add_in rfl rfl (by omega) ?_
        | refine load_rp rfl (Nat.le_of_ble_eq_true rfl) rfl ?_
        | refine fad_rp rfl (Nat.le_of_ble_eq_true rfl) rfl ?_
        | refine iaS_c rfl rfl (by omega) (by assumption) rfl ?_)
      refine ih (i + 1) (lay out r.1 (-r.2)) (pre ++ [r]) _ hn (by omega) (by simpa using hpr) hab hpb (fun q hq => hcap q (by simp [hq])) g1 g2 (by omega) (by omega) (fun v => ?_) (by rfl) (by rfl) (by rfl) (by rfl) (by rfl) (by rfl) hx hr
      rw [f1, hcn, cnt_append]; simp only [cnt]; split <;> omega
theorem C_rMinus (a b : List Run) (ha : a.length ≤ 1000000) (hb : b.length < 1000000) : PCallG Try.prog 40 [.c (encL a), .c (encL b)] (.c (bagV (minus a b))) [] := by
  refine pcallF Try.func40 c40 rfl ?_
  have h0 : cap = 1099511627776 := rfl
  have c1 := C_rGood a (by omega)
  have c2 := C_rGood b (by omega)
  unfold p40 r40_0 r40_1 r40_2 r40_3 r40_4 r40_10
  cases ga : good a with
  | false =>
    rw [ga] at c1
    rw [show minus a b = ([], false) by simp [minus, ga]]
    repeat' (first
      | refine call1 rfl c1 ?_
      | refine w_seq ?_
      | refine w_ops ?_
      | refine st_nil ?_
      | refine th_n ?_
      | refine th_r ?_
      | refine w_ret ?_
      | refine w_true rfl ?_
      | refine g_no rfl ?_
      | refine mv_c rfl ?_
      | refine pick_t rfl rfl ?_
      | refine not_ rfl ?_
      | refine alloc_ (fun u => ?_)
      | refine build_ rfl rfl ?_
      | refine store_ptr rfl rfl (by decide) rfl rfl (Nat.le_of_ble_eq_true rfl) rfl ?_)
    exact fin_r (rv_cell rfl rfl rfl rfl rv_nil) rfl
  | true =>
    cases gb : good b with
    | false =>
      rw [ga] at c1
      rw [gb] at c2
      rw [show minus a b = ([], false) by simp [minus, gb]]
      repeat' (first
        | refine call1 rfl c1 ?_
        | refine call1 rfl c2 ?_
        | refine w_seq ?_
        | refine w_ops ?_
        | refine st_nil ?_
        | refine th_n ?_
        | refine th_r ?_
        | refine w_ret ?_
        | refine w_true rfl ?_
        | refine g_yes rfl ?_
        | refine mv_c rfl ?_
        | refine pick_f rfl rfl ?_
        | refine not_ rfl ?_
        | refine alloc_ (fun u => ?_)
        | refine build_ rfl rfl ?_
        | refine store_ptr rfl rfl (by decide) rfl rfl (Nat.le_of_ble_eq_true rfl) rfl ?_)
      exact fin_r (rv_cell rfl rfl rfl rfl rv_nil) rfl
    | true =>
      rw [ga] at c1
      rw [gb] at c2
      obtain ⟨a1, a2, a3⟩ := good_iff.mp ga
      obtain ⟨b1, b2, b3⟩ := good_iff.mp gb
      rw [rminL_minus ga gb]
      repeat' (first
        | refine call1 rfl c1 ?_
        | refine call1 rfl c2 ?_
        | refine w_seq ?_
        | refine w_ops ?_
        | refine st_nil ?_
        | refine th_n ?_
        | refine w_block ?_
        | refine w_skip ?_
        | refine w_false rfl ?_
        | refine g_yes rfl ?_
        | refine mv_c rfl ?_
        | refine pick_f rfl rfl ?_
        | refine not_ rfl ?_
        | refine alloc_ (fun u => ?_))
      refine rmin_loop a b ha hb ga _ _ rfl b 0 a [] _ rfl (by omega) rfl b1 b2 (fun q hq => by have := le_sum b2 q hq; omega) a1 a2 (by omega) (by omega) (fun v => by simp [cnt]) (by rfl) (by rfl) (by rfl) (by rfl) (by rfl) (by rfl) ?_ ?_
      · intro o s' ho u5 u4 w4
        rw [← put_same u5, ← put_same u4, ← box_same w4]
        rw [ho]
        repeat' (first
          | refine w_seq ?_
          | refine w_ops ?_
          | refine st_nil ?_
          | refine th_n ?_
          | refine bk_x ?_
          | refine w_ret ?_
          | refine mv_c rfl ?_
          | refine build_ rfl rfl ?_
          | refine store_ptr rfl rfl (by decide) rfl rfl (Nat.le_of_ble_eq_true rfl) rfl ?_)
        exact fin_r (rv_cell rfl rfl rfl rfl rv_nil) rfl
      · intro s' ho u4 w4
        rw [← put_same u4, ← box_same w4]
        rw [ho]
        repeat' (first
          | refine th_r ?_
          | refine bk_r ?_)
        exact fin_r (rv_cell rfl rfl rfl rfl rv_nil) rfl
end Go.Proofs.Ytcmejdkjfekoeaa
namespace Go.Proofs.Ytcmejdkjfekoeaa
open Go.Pl Go.Bag
set_option maxHeartbeats 8000000
/-! ### the document's wide numbers: sign, high part, low part -/
def enc3 (w : Bool × Int × Int) : List CV := [.bool w.1, .int .u64 w.2.1, .int .u64 w.2.2]
def in3 (w : Bool × Int × Int) : Prop := (0 ≤ w.2.1 ∧ w.2.1 ≤ 18446744073709551615) ∧ (0 ≤ w.2.2 ∧ w.2.2 ≤ 18446744073709551615)
def less3 (a b : Bool × Int × Int) : Bool := decide (a.2.1 < b.2.1 ∨ (a.2.1 = b.2.1 ∧ a.2.2 < b.2.2))
def sub3 (p q : Bool × Int × Int) : Bool × Int × Int :=
  let hi := if p.2.2 < q.2.2 then ((p.2.1 - q.2.1) % 18446744073709551616 - 1) % 18446744073709551616 else (p.2.1 - q.2.1) % 18446744073709551616
  let lo := (p.2.2 - q.2.2) % 18446744073709551616
  (if hi = 0 ∧ lo = 0 then false else p.1, hi, lo)
def plus3 (a b : Bool × Int × Int) : Bool × Int × Int :=
  if a.1 = b.1 then (a.1, (if (a.2.2 + b.2.2) % 18446744073709551616 < a.2.2 then ((a.2.1 + b.2.1) % 18446744073709551616 + 1) % 18446744073709551616 else (a.2.1 + b.2.1) % 18446744073709551616), (a.2.2 + b.2.2) % 18446744073709551616)
  else if less3 a b then sub3 b a else sub3 a b
def of3 (z : Int) : Bool × Int × Int := (decide (z < 0), absI z / 18446744073709551616, absI z % 18446744073709551616)
theorem enc3_of (z : Int) : enc3 (of3 z) = cellsV z := rfl
theorem in3_sub {p q : Bool × Int × Int} : in3 (sub3 p q) := by
  unfold sub3 in3
  simp only
  refine ⟨?_, by omega⟩
  split <;> omega
theorem in3_plus {a b : Bool × Int × Int} : in3 (plus3 a b) := by
  unfold plus3
  split
  · unfold in3
    simp only
    refine ⟨?_, by omega⟩
    split <;> omega
  · split <;> exact in3_sub
theorem absI_nn (z : Int) : 0 ≤ absI z := by unfold absI; split <;> omega
theorem in3_of {z : Int} (h : absI z < 340282366920938463463374607431768211456) : in3 (of3 z) := by
  have := absI_nn z
  unfold in3 of3; simp only; omega
theorem less3_of {z y : Int} : less3 (of3 z) (of3 y) = decide (absI z < absI y) := by
  have := absI_nn z
  have := absI_nn y
  unfold less3 of3
  simp only
  rw [decide_eq_decide]
  omega
theorem sub3_of {z y : Int} (hs : decide (z < 0) ≠ decide (y < 0)) (hle : absI y ≤ absI z) (hb : absI z < 340282366920938463463374607431768211456) : sub3 (of3 z) (of3 y) = of3 (z + y) := by
  have h1 := absI_nn z
  have h2 := absI_nn y
  have h3 : absI (z + y) = absI z - absI y := by
    unfold absI at *
    by_cases hz : z < 0 <;> by_cases hy : y < 0 <;> by_cases hzy : z + y < 0 <;> simp [hz, hy, hzy] at hs hle ⊢ <;> omega
  have h4 : absI z - absI y ≠ 0 → decide (z < 0) = decide (z + y < 0) := fun hne => by
    rw [decide_eq_decide]
    unfold absI at *
    by_cases hz : z < 0 <;> by_cases hy : y < 0 <;> simp [hz, hy] at hs hle hne ⊢ <;> omega
  have h5 : absI z - absI y = 0 → decide (z + y < 0) = false := fun he => by
    rw [decide_eq_false_iff_not]
    rw [he] at h3
    unfold absI at h3
    split at h3 <;> omega
  unfold sub3 of3
  simp only
  rw [h3]
  generalize absI z = A at *
  generalize absI y = B at *
  have hlo : (A % 18446744073709551616 - B % 18446744073709551616) % 18446744073709551616 = (A - B) % 18446744073709551616 := by omega
  have hhi : (if A % 18446744073709551616 < B % 18446744073709551616 then ((A / 18446744073709551616 - B / 18446744073709551616) % 18446744073709551616 - 1) % 18446744073709551616 else (A / 18446744073709551616 - B / 18446744073709551616) % 18446744073709551616) = (A - B) / 18446744073709551616 := by
    split <;> omega
  rw [hlo, hhi]
  have h6 : ((A - B) / 18446744073709551616 = 0 ∧ (A - B) % 18446744073709551616 = 0) ↔ A - B = 0 := by omega
  by_cases he : A - B = 0
  · rw [if_pos (h6.mpr he), h5 he]
  · rw [if_neg (mt h6.mp he), h4 he]
theorem plus3_of {z y : Int} (hb : absI z + absI y < 340282366920938463463374607431768211456) : plus3 (of3 z) (of3 y) = of3 (z + y) := by
  have h1 := absI_nn z
  have h2 := absI_nn y
  by_cases hs : decide (z < 0) = decide (y < 0)
  · have h3 : absI (z + y) = absI z + absI y := by
      unfold absI at *
      by_cases hz : z < 0 <;> by_cases hy : y < 0 <;> by_cases hzy : z + y < 0 <;> simp [hz, hy, hzy] at hs ⊢ <;> omega
    have h4 : decide (z < 0) = decide (z + y < 0) := by
      by_cases hz : z < 0 <;> by_cases hy : y < 0 <;> simp [hz, hy] at hs ⊢ <;> omega
    unfold plus3 of3
    simp only
    rw [if_pos hs, h3, ← h4]
    generalize absI z = A at *
    generalize absI y = B at *
    have hlo : (A % 18446744073709551616 + B % 18446744073709551616) % 18446744073709551616 = (A + B) % 18446744073709551616 := by omega
    have hhi : (if (A % 18446744073709551616 + B % 18446744073709551616) % 18446744073709551616 < A % 18446744073709551616 then ((A / 18446744073709551616 + B / 18446744073709551616) % 18446744073709551616 + 1) % 18446744073709551616 else (A / 18446744073709551616 + B / 18446744073709551616) % 18446744073709551616) = (A + B) / 18446744073709551616 := by
      split <;> omega
    rw [hhi, hlo]
  · unfold plus3
    rw [if_neg (show ¬ (of3 z).1 = (of3 y).1 from hs), less3_of]
    by_cases hlt : absI z < absI y
    · rw [if_pos (by simpa using hlt), sub3_of (fun h => hs h.symm) (by omega) (by omega), Int.add_comm]
    · rw [if_neg (by simpa using hlt), sub3_of hs (by omega) (by omega)]
theorem C_rLess (a b : Bool × Int × Int) : PCallG Try.prog 129 [.c (.agg (enc3 a)), .c (.agg (enc3 b))] (.c (.bool (less3 a b))) [] := by
  obtain ⟨an, ah, al⟩ := a
  obtain ⟨bn, bh, bl⟩ := b
  refine pcallF Try.func129 c129 rfl ?_
  unfold p129 r129_0 r129_1
  by_cases h1 : ah < bh
  · have e : less3 (an, ah, al) (bn, bh, bl) = true := by simp [less3, h1]
    rw [e]
    repeat' (first
      | refine w_seq ?_
      | refine w_ops ?_
      | refine st_nil ?_
      | refine th_n ?_
      | refine w_ret ?_
      | refine g_no rfl ?_
      | refine g_un rfl ?_
      | refine mv_c rfl ?_
      | refine pick_t rfl rfl ?_
      | refine lss_t rfl rfl (by omega) ?_
      | refine box_ rfl rfl rfl (fun u => ?_)
      | refine load_ptr rfl (by decide) rfl (Nat.le_of_ble_eq_true rfl) rfl ?_
      | refine fad_ptr rfl rfl rfl ?_)
    exact fin_r rfl rfl
  · by_cases h2 : ah = bh
    · by_cases h3 : al < bl
      · have e : less3 (an, ah, al) (bn, bh, bl) = true := by simp [less3, h2, h3]
        rw [e]
        repeat' (first
          | refine w_seq ?_
          | refine w_ops ?_
          | refine st_nil ?_
          | refine th_n ?_
          | refine w_ret ?_
          | refine g_yes rfl ?_
          | refine mv_c rfl ?_
          | refine pick_t rfl rfl ?_
          | refine pick_f rfl rfl ?_
          | refine lss_t rfl rfl (by omega) ?_
          | refine lss_f rfl rfl (by omega) ?_
          | refine eql_t rfl rfl (by omega) ?_
          | refine box_ rfl rfl rfl (fun u => ?_)
          | refine load_ptr rfl (by decide) rfl (Nat.le_of_ble_eq_true rfl) rfl ?_
          | refine fad_ptr rfl rfl rfl ?_)
        exact fin_r rfl rfl
      · have e : less3 (an, ah, al) (bn, bh, bl) = false := by simp [less3, h2]; omega
        rw [e]
        repeat' (first
          | refine w_seq ?_
          | refine w_ops ?_
          | refine st_nil ?_
          | refine th_n ?_
          | refine w_ret ?_
          | refine g_yes rfl ?_
          | refine mv_c rfl ?_
          | refine pick_t rfl rfl ?_
          | refine pick_f rfl rfl ?_
          | refine lss_f rfl rfl (by omega) ?_
          | refine eql_t rfl rfl (by omega) ?_
          | refine box_ rfl rfl rfl (fun u => ?_)
          | refine load_ptr rfl (by decide) rfl (Nat.le_of_ble_eq_true rfl) rfl ?_
          | refine fad_ptr rfl rfl rfl ?_)
        exact fin_r rfl rfl
    · have e : less3 (an, ah, al) (bn, bh, bl) = false := by simp [less3, h2]; omega
      rw [e]
      repeat' (first
        | refine w_seq ?_
        | refine w_ops ?_
        | refine st_nil ?_
        | refine th_n ?_
        | refine w_ret ?_
        | refine g_yes rfl ?_
        | refine g_no rfl ?_
        | refine mv_c rfl ?_
        | refine pick_f rfl rfl ?_
        | refine lss_f rfl rfl (by omega) ?_
        | refine eql_f rfl rfl (by omega) ?_
        | refine box_ rfl rfl rfl (fun u => ?_)
        | refine load_ptr rfl (by decide) rfl (Nat.le_of_ble_eq_true rfl) rfl ?_
        | refine fad_ptr rfl rfl rfl ?_)
      exact fin_r rfl rfl
theorem C_rPlus (a b : Bool × Int × Int) : PCallG Try.prog 122 [.c (.agg (enc3 a)), .c (.agg (enc3 b))] (.c (.agg (enc3 (plus3 a b)))) [] := by
  have hL := C_rLess a b
  obtain ⟨an, ah, al⟩ := a
  obtain ⟨bn, bh, bl⟩ := b
  refine pcallF Try.func122 c122 rfl ?_
  unfold p122 r122_0 r122_1 r122_2 r122_3 r122_4 r122_5 r122_6 r122_7 r122_8 r122_9 r122_10 r122_11 r122_12 r122_13
  by_cases hs : an = bn
  · subst hs
    by_cases hc : (al + bl) % 18446744073709551616 < al
    · have e : plus3 (an, ah, al) (an, bh, bl) = (an, ((ah + bh) % 18446744073709551616 + 1) % 18446744073709551616, (al + bl) % 18446744073709551616) := by simp [plus3, hc]
      rw [e]
      repeat' (first
        | refine eqs_t rfl rfl (show eqC false [LK.b] (CV.bool an) (CV.bool an) = some true by simp [eqC, shEq]) ?_
        | refine w_seq ?_
        | refine w_ops ?_
        | refine st_nil ?_
        | refine th_n ?_
        | refine th_r ?_
        | refine w_ret ?_
        | refine w_true rfl ?_
        | refine lss_t rfl rfl (by omega) ?_
        | refine alloc_ (fun u => ?_)
        | refine box_ rfl rfl rfl (fun u => ?_)
        | refine build_ rfl rfl ?_
        | refine load_ptr rfl (by decide) rfl (Nat.le_of_ble_eq_true rfl) rfl ?_
        | refine store_ptr rfl rfl (by decide) rfl rfl (Nat.le_of_ble_eq_true rfl) rfl ?_
        | refine fad_ptr rfl rfl rfl ?_
        | refine addu_ rfl rfl ?_)
      exact fin_r (rv_cell rfl rfl rfl rfl rv_nil) rfl
    · have e : plus3 (an, ah, al) (an, bh, bl) = (an, (ah + bh) % 18446744073709551616, (al + bl) % 18446744073709551616) := by simp [plus3, hc]
      rw [e]
      repeat' (first
        | refine eqs_t rfl rfl (show eqC false [LK.b] (CV.bool an) (CV.bool an) = some true by simp [eqC, shEq]) ?_
        | refine w_seq ?_
        | refine w_ops ?_
        | refine st_nil ?_
        | refine th_n ?_
        | refine th_r ?_
        | refine w_skip ?_
        | refine w_ret ?_
        | refine w_true rfl ?_
        | refine w_false rfl ?_
        | refine lss_f rfl rfl (by omega) ?_
        | refine alloc_ (fun u => ?_)
        | refine box_ rfl rfl rfl (fun u => ?_)
        | refine build_ rfl rfl ?_
        | refine load_ptr rfl (by decide) rfl (Nat.le_of_ble_eq_true rfl) rfl ?_
        | refine store_ptr rfl rfl (by decide) rfl rfl (Nat.le_of_ble_eq_true rfl) rfl ?_
        | refine fad_ptr rfl rfl rfl ?_
        | refine addu_ rfl rfl ?_)
      exact fin_r (rv_cell rfl rfl rfl rfl rv_nil) rfl
  · have hne : (an == bn) = false := by simpa using hs
    have hq : eqC false [LK.b] (CV.bool an) (CV.bool bn) = some false := by simp [eqC, shEq, hne]
    cases hl : less3 (an, ah, al) (bn, bh, bl) with
    | true =>
      have e : plus3 (an, ah, al) (bn, bh, bl) = sub3 (bn, bh, bl) (an, ah, al) := by simp [plus3, hs, hl]
      rw [hl] at hL
      rw [e]
      by_cases hb : bl < al
      · by_cases h0 : ((bh - ah) % 18446744073709551616 - 1) % 18446744073709551616 = 0
        · by_cases h1 : (bl - al) % 18446744073709551616 = 0
          · rw [show sub3 (bn, bh, bl) (an, ah, al) = (false, ((bh - ah) % 18446744073709551616 - 1) % 18446744073709551616, (bl - al) % 18446744073709551616) by simp [sub3, hb, h0, h1]]
            repeat' (first
              | refine call2 rfl rfl hL ?_
              | refine eqs_t rfl rfl hq ?_
              | refine w_seq ?_
              | refine w_ops ?_
              | refine st_nil ?_
              | refine th_n ?_
              | refine w_skip ?_
              | refine w_ret ?_
              | refine w_true rfl ?_
              | refine w_false rfl ?_
              | refine g_yes rfl ?_
              | refine mv_c rfl ?_
              | refine pick_t rfl rfl ?_
              | refine lss_t rfl rfl (by omega) ?_
              | refine eql_t rfl rfl (by omega) ?_
              | refine alloc_ (fun u => ?_)
              | refine box_ rfl rfl rfl (fun u => ?_)
              | refine build_ rfl rfl ?_
              | refine load_ptr rfl (by decide) rfl (Nat.le_of_ble_eq_true rfl) rfl ?_
              | refine store_ptr rfl rfl (by decide) rfl rfl (Nat.le_of_ble_eq_true rfl) rfl ?_
              | refine fad_ptr rfl rfl rfl ?_
              | refine subu_ rfl rfl ?_)
            exact fin_r (rv_cell rfl rfl rfl rfl rv_nil) rfl
          · rw [show sub3 (bn, bh, bl) (an, ah, al) = (bn, ((bh - ah) % 18446744073709551616 - 1) % 18446744073709551616, (bl - al) % 18446744073709551616) by simp [sub3, hb, h0, h1]]
            repeat' (first
              | refine call2 rfl rfl hL ?_
              | refine eqs_t rfl rfl hq ?_
              | refine w_seq ?_
              | refine w_ops ?_
              | refine st_nil ?_
              | refine th_n ?_
              | refine w_skip ?_
              | refine w_ret ?_
              | refine w_true rfl ?_
              | refine w_false rfl ?_
              | refine g_yes rfl ?_
              | refine mv_c rfl ?_
              | refine pick_t rfl rfl ?_
              | refine lss_t rfl rfl (by omega) ?_
              | refine eql_t rfl rfl (by omega) ?_
              | refine eql_f rfl rfl (by omega) ?_
              | refine alloc_ (fun u => ?_)
              | refine box_ rfl rfl rfl (fun u => ?_)
              | refine build_ rfl rfl ?_
              | refine load_ptr rfl (by decide) rfl (Nat.le_of_ble_eq_true rfl) rfl ?_
              | refine store_ptr rfl rfl (by decide) rfl rfl (Nat.le_of_ble_eq_true rfl) rfl ?_
              | refine fad_ptr rfl rfl rfl ?_
              | refine subu_ rfl rfl ?_)
            exact fin_r (rv_cell rfl rfl rfl rfl rv_nil) rfl
        · rw [show sub3 (bn, bh, bl) (an, ah, al) = (bn, ((bh - ah) % 18446744073709551616 - 1) % 18446744073709551616, (bl - al) % 18446744073709551616) by unfold sub3; simp only [if_pos hb]; rw [if_neg (fun h => h0 h.1)]]
          repeat' (first
            | refine call2 rfl rfl hL ?_
            | refine eqs_t rfl rfl hq ?_
            | refine w_seq ?_
            | refine w_ops ?_
            | refine st_nil ?_
            | refine th_n ?_
            | refine w_skip ?_
            | refine w_ret ?_
            | refine w_true rfl ?_
            | refine w_false rfl ?_
            | refine g_no rfl ?_
            | refine mv_c rfl ?_
            | refine pick_f rfl rfl ?_
            | refine lss_t rfl rfl (by omega) ?_
            | refine eql_f rfl rfl (by omega) ?_
            | refine alloc_ (fun u => ?_)
            | refine box_ rfl rfl rfl (fun u => ?_)
            | refine build_ rfl rfl ?_
            | refine load_ptr rfl (by decide) rfl (Nat.le_of_ble_eq_true rfl) rfl ?_
            | refine store_ptr rfl rfl (by decide) rfl rfl (Nat.le_of_ble_eq_true rfl) rfl ?_
            | refine fad_ptr rfl rfl rfl ?_
            | refine subu_ rfl rfl ?_)
          exact fin_r (rv_cell rfl rfl rfl rfl rv_nil) rfl
      · by_cases h0 : (bh - ah) % 18446744073709551616 = 0
        · by_cases h1 : (bl - al) % 18446744073709551616 = 0
          · rw [show sub3 (bn, bh, bl) (an, ah, al) = (false, (bh - ah) % 18446744073709551616, (bl - al) % 18446744073709551616) by simp [sub3, hb, h0, h1]]
            repeat' (first
              | refine call2 rfl rfl hL ?_
              | refine eqs_t rfl rfl hq ?_
              | refine w_seq ?_
              | refine w_ops ?_
              | refine st_nil ?_
              | refine th_n ?_
              | refine w_skip ?_
              | refine w_ret ?_
              | refine w_true rfl ?_
              | refine w_false rfl ?_
              | refine g_yes rfl ?_
              | refine mv_c rfl ?_
              | refine pick_t rfl rfl ?_
              | refine lss_f rfl rfl (by omega) ?_
              | refine eql_t rfl rfl (by omega) ?_
              | refine alloc_ (fun u => ?_)
              | refine box_ rfl rfl rfl (fun u => ?_)
              | refine build_ rfl rfl ?_
              | refine load_ptr rfl (by decide) rfl (Nat.le_of_ble_eq_true rfl) rfl ?_
              | refine store_ptr rfl rfl (by decide) rfl rfl (Nat.le_of_ble_eq_true rfl) rfl ?_
              | refine fad_ptr rfl rfl rfl ?_
              | refine subu_ rfl rfl ?_)
            exact fin_r (rv_cell rfl rfl rfl rfl rv_nil) rfl
          · rw [show sub3 (bn, bh, bl) (an, ah, al) = (bn, (bh - ah) % 18446744073709551616, (bl - al) % 18446744073709551616) by simp [sub3, hb, h0, h1]]
            repeat' (first
              | refine call2 rfl rfl hL ?_
              | refine eqs_t rfl rfl hq ?_
              | refine w_seq ?_
              | refine w_ops ?_
              | refine st_nil ?_
              | refine th_n ?_
              | refine w_skip ?_
              | refine w_ret ?_
              | refine w_true rfl ?_
              | refine w_false rfl ?_
              | refine g_yes rfl ?_
              | refine mv_c rfl ?_
              | refine pick_t rfl rfl ?_
              | refine lss_f rfl rfl (by omega) ?_
              | refine eql_t rfl rfl (by omega) ?_
              | refine eql_f rfl rfl (by omega) ?_
              | refine alloc_ (fun u => ?_)
              | refine box_ rfl rfl rfl (fun u => ?_)
              | refine build_ rfl rfl ?_
              | refine load_ptr rfl (by decide) rfl (Nat.le_of_ble_eq_true rfl) rfl ?_
              | refine store_ptr rfl rfl (by decide) rfl rfl (Nat.le_of_ble_eq_true rfl) rfl ?_
              | refine fad_ptr rfl rfl rfl ?_
              | refine subu_ rfl rfl ?_)
            exact fin_r (rv_cell rfl rfl rfl rfl rv_nil) rfl
        · rw [show sub3 (bn, bh, bl) (an, ah, al) = (bn, (bh - ah) % 18446744073709551616, (bl - al) % 18446744073709551616) by simp [sub3, hb, h0]]
          repeat' (first
            | refine call2 rfl rfl hL ?_
            | refine eqs_t rfl rfl hq ?_
            | refine w_seq ?_
            | refine w_ops ?_
            | refine st_nil ?_
            | refine th_n ?_
            | refine w_skip ?_
            | refine w_ret ?_
            | refine w_true rfl ?_
            | refine w_false rfl ?_
            | refine g_no rfl ?_
            | refine mv_c rfl ?_
            | refine pick_f rfl rfl ?_
            | refine lss_f rfl rfl (by omega) ?_
            | refine eql_f rfl rfl (by omega) ?_
            | refine alloc_ (fun u => ?_)
            | refine box_ rfl rfl rfl (fun u => ?_)
            | refine build_ rfl rfl ?_
            | refine load_ptr rfl (by decide) rfl (Nat.le_of_ble_eq_true rfl) rfl ?_
            | refine store_ptr rfl rfl (by decide) rfl rfl (Nat.le_of_ble_eq_true rfl) rfl ?_
            | refine fad_ptr rfl rfl rfl ?_
            | refine subu_ rfl rfl ?_)
          exact fin_r (rv_cell rfl rfl rfl rfl rv_nil) rfl
    | false =>
      have e : plus3 (an, ah, al) (bn, bh, bl) = sub3 (an, ah, al) (bn, bh, bl) := by simp [plus3, hs, hl]
      rw [hl] at hL
      rw [e]
      by_cases hb : al < bl
      · by_cases h0 : ((ah - bh) % 18446744073709551616 - 1) % 18446744073709551616 = 0
        · by_cases h1 : (al - bl) % 18446744073709551616 = 0
          · rw [show sub3 (an, ah, al) (bn, bh, bl) = (false, ((ah - bh) % 18446744073709551616 - 1) % 18446744073709551616, (al - bl) % 18446744073709551616) by simp [sub3, hb, h0, h1]]
            repeat' (first
              | refine call2 rfl rfl hL ?_
              | refine eqs_t rfl rfl hq ?_
              | refine w_seq ?_
              | refine w_ops ?_
              | refine st_nil ?_
              | refine th_n ?_
              | refine w_skip ?_
              | refine w_ret ?_
              | refine w_true rfl ?_
              | refine w_false rfl ?_
              | refine g_yes rfl ?_
              | refine mv_c rfl ?_
              | refine pick_t rfl rfl ?_
              | refine lss_t rfl rfl (by omega) ?_
              | refine eql_t rfl rfl (by omega) ?_
              | refine alloc_ (fun u => ?_)
              | refine box_ rfl rfl rfl (fun u => ?_)
              | refine build_ rfl rfl ?_
              | refine load_ptr rfl (by decide) rfl (Nat.le_of_ble_eq_true rfl) rfl ?_
              | refine store_ptr rfl rfl (by decide) rfl rfl (Nat.le_of_ble_eq_true rfl) rfl ?_
              | refine fad_ptr rfl rfl rfl ?_
              | refine subu_ rfl rfl ?_)
            exact fin_r (rv_cell rfl rfl rfl rfl rv_nil) rfl
          · rw [show sub3 (an, ah, al) (bn, bh, bl) = (an, ((ah - bh) % 18446744073709551616 - 1) % 18446744073709551616, (al - bl) % 18446744073709551616) by simp [sub3, hb, h0, h1]]
            repeat' (first
              | refine call2 rfl rfl hL ?_
              | refine eqs_t rfl rfl hq ?_
              | refine w_seq ?_
              | refine w_ops ?_
              | refine st_nil ?_
              | refine th_n ?_
              | refine w_skip ?_
              | refine w_ret ?_
              | refine w_true rfl ?_
              | refine w_false rfl ?_
              | refine g_yes rfl ?_
              | refine mv_c rfl ?_
              | refine pick_t rfl rfl ?_
              | refine lss_t rfl rfl (by omega) ?_
              | refine eql_t rfl rfl (by omega) ?_
              | refine eql_f rfl rfl (by omega) ?_
              | refine alloc_ (fun u => ?_)
              | refine box_ rfl rfl rfl (fun u => ?_)
              | refine build_ rfl rfl ?_
              | refine load_ptr rfl (by decide) rfl (Nat.le_of_ble_eq_true rfl) rfl ?_
              | refine store_ptr rfl rfl (by decide) rfl rfl (Nat.le_of_ble_eq_true rfl) rfl ?_
              | refine fad_ptr rfl rfl rfl ?_
              | refine subu_ rfl rfl ?_)
            exact fin_r (rv_cell rfl rfl rfl rfl rv_nil) rfl
        · rw [show sub3 (an, ah, al) (bn, bh, bl) = (an, ((ah - bh) % 18446744073709551616 - 1) % 18446744073709551616, (al - bl) % 18446744073709551616) by unfold sub3; simp only [if_pos hb]; rw [if_neg (fun h => h0 h.1)]]
          repeat' (first
            | refine call2 rfl rfl hL ?_
            | refine eqs_t rfl rfl hq ?_
            | refine w_seq ?_
            | refine w_ops ?_
            | refine st_nil ?_
            | refine th_n ?_
            | refine w_skip ?_
            | refine w_ret ?_
            | refine w_true rfl ?_
            | refine w_false rfl ?_
            | refine g_no rfl ?_
            | refine mv_c rfl ?_
            | refine pick_f rfl rfl ?_
            | refine lss_t rfl rfl (by omega) ?_
            | refine eql_f rfl rfl (by omega) ?_
            | refine alloc_ (fun u => ?_)
            | refine box_ rfl rfl rfl (fun u => ?_)
            | refine build_ rfl rfl ?_
            | refine load_ptr rfl (by decide) rfl (Nat.le_of_ble_eq_true rfl) rfl ?_
            | refine store_ptr rfl rfl (by decide) rfl rfl (Nat.le_of_ble_eq_true rfl) rfl ?_
            | refine fad_ptr rfl rfl rfl ?_
            | refine subu_ rfl rfl ?_)
          exact fin_r (rv_cell rfl rfl rfl rfl rv_nil) rfl
      · by_cases h0 : (ah - bh) % 18446744073709551616 = 0
        · by_cases h1 : (al - bl) % 18446744073709551616 = 0
          · rw [show sub3 (an, ah, al) (bn, bh, bl) = (false, (ah - bh) % 18446744073709551616, (al - bl) % 18446744073709551616) by simp [sub3, hb, h0, h1]]
            repeat' (first
              | refine call2 rfl rfl hL ?_
              | refine eqs_t rfl rfl hq ?_
              | refine w_seq ?_
              | refine w_ops ?_
              | refine st_nil ?_
              | refine th_n ?_
              | refine w_skip ?_
              | refine w_ret ?_
              | refine w_true rfl ?_
              | refine w_false rfl ?_
              | refine g_yes rfl ?_
              | refine mv_c rfl ?_
              | refine pick_t rfl rfl ?_
              | refine lss_f rfl rfl (by omega) ?_
              | refine eql_t rfl rfl (by omega) ?_
              | refine alloc_ (fun u => ?_)
              | refine box_ rfl rfl rfl (fun u => ?_)
              | refine build_ rfl rfl ?_
              | refine load_ptr rfl (by decide) rfl (Nat.le_of_ble_eq_true rfl) rfl ?_
              | refine store_ptr rfl rfl (by decide) rfl rfl (Nat.le_of_ble_eq_true rfl) rfl ?_
              | refine fad_ptr rfl rfl rfl ?_
              | refine subu_ rfl rfl ?_)
            exact fin_r (rv_cell rfl rfl rfl rfl rv_nil) rfl
          · rw [show sub3 (an, ah, al) (bn, bh, bl) = (an, (ah - bh) % 18446744073709551616, (al - bl) % 18446744073709551616) by simp [sub3, hb, h0, h1]]
            repeat' (first
              | refine call2 rfl rfl hL ?_
              | refine eqs_t rfl rfl hq ?_
              | refine w_seq ?_
              | refine w_ops ?_
              | refine st_nil ?_
              | refine th_n ?_
              | refine w_skip ?_
              | refine w_ret ?_
              | refine w_false rfl ?_
              | refine g_yes rfl ?_
              | refine mv_c rfl ?_
              | refine pick_t rfl rfl ?_
              | refine lss_f rfl rfl (by omega) ?_
              | refine eql_t rfl rfl (by omega) ?_
              | refine eql_f rfl rfl (by omega) ?_
              | refine alloc_ (fun u => ?_)
              | refine box_ rfl rfl rfl (fun u => ?_)
              | refine build_ rfl rfl ?_
              | refine load_ptr rfl (by decide) rfl (Nat.le_of_ble_eq_true rfl) rfl ?_
              | refine store_ptr rfl rfl (by decide) rfl rfl (Nat.le_of_ble_eq_true rfl) rfl ?_
              | refine fad_ptr rfl rfl rfl ?_
              | refine subu_ rfl rfl ?_)
            exact fin_r (rv_cell rfl rfl rfl rfl rv_nil) rfl
        · rw [show sub3 (an, ah, al) (bn, bh, bl) = (an, (ah - bh) % 18446744073709551616, (al - bl) % 18446744073709551616) by simp [sub3, hb, h0]]
          repeat' (first
            | refine call2 rfl rfl hL ?_
            | refine eqs_t rfl rfl hq ?_
            | refine w_seq ?_
            | refine w_ops ?_
            | refine st_nil ?_
            | refine th_n ?_
            | refine w_skip ?_
            | refine w_ret ?_
            | refine w_false rfl ?_
            | refine g_no rfl ?_
            | refine mv_c rfl ?_
            | refine pick_f rfl rfl ?_
            | refine lss_f rfl rfl (by omega) ?_
            | refine eql_f rfl rfl (by omega) ?_
            | refine alloc_ (fun u => ?_)
            | refine box_ rfl rfl rfl (fun u => ?_)
            | refine build_ rfl rfl ?_
            | refine load_ptr rfl (by decide) rfl (Nat.le_of_ble_eq_true rfl) rfl ?_
            | refine store_ptr rfl rfl (by decide) rfl rfl (Nat.le_of_ble_eq_true rfl) rfl ?_
            | refine fad_ptr rfl rfl rfl ?_
            | refine subu_ rfl rfl ?_)
          exact fin_r (rv_cell rfl rfl rfl rfl rv_nil) rfl
end Go.Proofs.Ytcmejdkjfekoeaa
namespace Go.Proofs.Ytcmejdkjfekoeaa
open Go.Pl Go.Bag
set_option maxHeartbeats 8000000
def back3 (w : Bool × Int × Int) : Int × Bool :=
  if w.2.1 ≠ 0 ∨ 9223372036854775808 < w.2.2 ∨ (w.2.2 = 9223372036854775808 ∧ w.1 = false) then (0, false)
  else if w.2.2 = 9223372036854775808 then (-9223372036854775808, true) else if w.1 then (-w.2.2, true) else (w.2.2, true)
theorem back3_of (z : Int) : back3 (of3 z) = if I64 z then (z, true) else (0, false) := by
  have h1 := absI_nn z
  unfold back3 of3
  simp only
  unfold absI at *
  by_cases hz : z < 0
  · simp only [hz, if_true, decide_true] at *
    split
    · rename_i h; rw [if_neg (show ¬ I64 z by unfold I64; simp at h; omega)]
    · rename_i h; simp at h; split
      · rw [if_pos (show I64 z by unfold I64; omega)]; congr 1; omega
      · rw [if_pos (show I64 z by unfold I64; omega)]; congr 1; omega
  · simp only [hz, if_false, decide_false] at *
    split
    · rename_i h; rw [if_neg (show ¬ I64 z by unfold I64; simp at h; omega)]
    · rename_i h; simp at h; split
      · rename_i h2; exfalso; omega
      · rw [if_pos (show I64 z by unfold I64; omega)]
        simp
        omega
theorem C_rBack (w : Bool × Int × Int) (hw : in3 w) : PCallG Try.prog 91 [.c (.agg (enc3 w))] (.c (tupI (back3 w))) [] := by
  obtain ⟨n, h, l⟩ := w
  obtain ⟨⟨h1, h2⟩, h3, h4⟩ := hw
  simp only at h1 h2 h3 h4
  show PCallG _ 91 [.c (.agg [.bool n, .int .u64 h, .int .u64 l])] _ _
  refine pcallF Try.func91 c91 rfl ?_
  unfold p91 r91_0 r91_1 r91_2 r91_3 r91_4 r91_5 r91_6 r91_7
  by_cases hh : h = 0
  · by_cases hl : 9223372036854775808 < l
    · have e : back3 (n, h, l) = (0, false) := by simp [back3, hl]
      rw [e]
      repeat' (first
        | refine w_seq ?_
        | refine w_ops ?_
        | refine st_nil ?_
        | refine th_n ?_
        | refine th_r ?_
        | refine bk_r ?_
        | refine w_block ?_
        | refine w_ret ?_
        | refine w_true rfl ?_
        | refine g_yes rfl ?_
        | refine g_no rfl ?_
        | refine g_un rfl ?_
        | refine mv_c rfl ?_
        | refine pick_t rfl rfl ?_
        | refine pick_f rfl rfl ?_
        | refine gtr_t rfl rfl (by omega) ?_
        | refine neq_f rfl rfl (by omega) ?_
        | refine box_ rfl rfl rfl (fun u => ?_)
        | refine load_ptr rfl (by decide) rfl (Nat.le_of_ble_eq_true rfl) rfl ?_
        | refine fad_ptr rfl rfl rfl ?_)
      exact fin_r rfl rfl
    · by_cases hq : l = 9223372036854775808
      · cases n with
        | false =>
          have e : back3 (false, h, l) = (0, false) := by simp [back3, hq]
          rw [e]
          repeat' (first
            | refine w_seq ?_
            | refine w_ops ?_
            | refine st_nil ?_
            | refine th_n ?_
            | refine th_r ?_
            | refine bk_r ?_
            | refine w_block ?_
            | refine w_ret ?_
            | refine w_true rfl ?_
            | refine g_yes rfl ?_
            | refine mv_c rfl ?_
            | refine pick_t rfl rfl ?_
            | refine pick_f rfl rfl ?_
            | refine gtr_f rfl rfl (by omega) ?_
            | refine eql_t rfl rfl (by omega) ?_
            | refine neq_f rfl rfl (by omega) ?_
            | refine not_ rfl ?_
            | refine box_ rfl rfl rfl (fun u => ?_)
            | refine load_ptr rfl (by decide) rfl (Nat.le_of_ble_eq_true rfl) rfl ?_
            | refine fad_ptr rfl rfl rfl ?_)
          exact fin_r rfl rfl
        | true =>
          have e : back3 (true, h, l) = (-9223372036854775808, true) := by simp [back3, hq, hh]
          rw [e]
          repeat' (first
            | refine w_seq ?_
            | refine w_ops ?_
            | refine st_nil ?_
            | refine th_n ?_
            | refine th_r ?_
            | refine bk_r ?_
            | refine w_block ?_
            | refine w_ret ?_
            | refine w_true rfl ?_
            | refine w_false rfl ?_
            | refine g_yes rfl ?_
            | refine mv_c rfl ?_
            | refine pick_t rfl rfl ?_
            | refine pick_f rfl rfl ?_
            | refine gtr_f rfl rfl (by omega) ?_
            | refine eql_t rfl rfl (by omega) ?_
            | refine neq_f rfl rfl (by omega) ?_
            | refine not_ rfl ?_
            | refine box_ rfl rfl rfl (fun u => ?_)
            | refine load_ptr rfl (by decide) rfl (Nat.le_of_ble_eq_true rfl) rfl ?_
            | refine fad_ptr rfl rfl rfl ?_)
          exact fin_r rfl rfl
      · cases n with
        | false =>
          have e : back3 (false, h, l) = (l, true) := by simp [back3, hq, hh]; omega
          rw [e]
          repeat' (first
            | refine w_seq ?_
            | refine w_ops ?_
            | refine st_nil ?_
            | refine th_n ?_
            | refine bk_n ?_
            | refine w_block ?_
            | refine w_skip ?_
            | refine w_ret ?_
            | refine w_false rfl ?_
            | refine g_yes rfl ?_
            | refine g_no rfl ?_
            | refine mv_c rfl ?_
            | refine pick_f rfl rfl ?_
            | refine gtr_f rfl rfl (by omega) ?_
            | refine eql_f rfl rfl (by omega) ?_
            | refine neq_f rfl rfl (by omega) ?_
            | refine conv_in rfl (wrap64_in (by omega)) ?_
            | refine box_ rfl rfl rfl (fun u => ?_)
            | refine load_ptr rfl (by decide) rfl (Nat.le_of_ble_eq_true rfl) rfl ?_
            | refine fad_ptr rfl rfl rfl ?_)
          exact fin_r rfl rfl
        | true =>
          have e : back3 (true, h, l) = (-l, true) := by simp [back3, hq, hh]; omega
          rw [e]
          repeat' (first
            | refine w_seq ?_
            | refine w_ops ?_
            | refine st_nil ?_
            | refine th_n ?_
            | refine th_r ?_
            | refine bk_r ?_
            | refine w_block ?_
            | refine w_ret ?_
            | refine w_true rfl ?_
            | refine w_false rfl ?_
            | refine g_yes rfl ?_
            | refine g_no rfl ?_
            | refine mv_c rfl ?_
            | refine pick_f rfl rfl ?_
            | refine gtr_f rfl rfl (by omega) ?_
            | refine eql_f rfl rfl (by omega) ?_
            | refine neq_f rfl rfl (by omega) ?_
            | refine conv_in rfl (wrap64_in (by omega)) ?_
            | refine neg_in rfl (by omega) ?_
            | refine box_ rfl rfl rfl (fun u => ?_)
            | refine load_ptr rfl (by decide) rfl (Nat.le_of_ble_eq_true rfl) rfl ?_
            | refine fad_ptr rfl rfl rfl ?_)
          exact fin_r rfl rfl
  · have e : back3 (n, h, l) = (0, false) := by simp [back3, hh]
    rw [e]
    repeat' (first
      | refine w_seq ?_
      | refine w_ops ?_
      | refine st_nil ?_
      | refine th_n ?_
      | refine th_r ?_
      | refine bk_r ?_
      | refine w_block ?_
      | refine w_ret ?_
      | refine w_true rfl ?_
      | refine g_no rfl ?_
      | refine g_un rfl ?_
      | refine mv_c rfl ?_
      | refine pick_t rfl rfl ?_
      | refine neq_t rfl rfl (by omega) ?_
      | refine box_ rfl rfl rfl (fun u => ?_)
      | refine load_ptr rfl (by decide) rfl (Nat.le_of_ble_eq_true rfl) rfl ?_
      | refine fad_ptr rfl rfl rfl ?_)
    exact fin_r rfl rfl
/-- all values together, as the document reckons -/
def wideS : Bool × Int × Int → List Run → Bool × Int × Int
  | w, [] => w
  | w, r :: l => wideS (plus3 w (of3 (r.1 * r.2))) l
theorem wideS_in : ∀ (l : List Run) (w : Bool × Int × Int), in3 w → in3 (wideS w l)
  | [], _, h => h
  | r :: l, _, _ => wideS_in l _ in3_plus
theorem wideS_of : ∀ (l : List Run) (z : Int), pos l → ranged l → absI z + 9223372036854775808 * sum l < 340282366920938463463374607431768211456 → wideS (of3 z) l = of3 (z + wsum l)
  | [], z, _, _, _ => by simp [wideS, wsum]
  | r :: l, z, hp, hr, hb => by
    have h1 := hp r (by simp)
    have hp' : pos l := fun q hq => hp q (by simp [hq])
    have h2 := sum_nonneg hp'
    have h3 := mul_bound (hr r (by simp)).1 (show 0 ≤ r.2 by omega)
    have h4 := absI_nn z
    simp only [sum] at hb
    have h5 : absI (r.1 * r.2) ≤ 9223372036854775808 * r.2 := by
      unfold absI
      split <;> omega
    have h6 : absI (z + r.1 * r.2) ≤ absI z + absI (r.1 * r.2) := by
      unfold absI
      split <;> split <;> split <;> omega
    rw [wideS, plus3_of (by omega), wideS_of l (z + r.1 * r.2) hp' (fun q hq => hr q (by simp [hq])) (by omega)]
    simp only [wsum]
    congr 1
    omega
theorem wide_loop {K : Ex → PS → Prop} (l : List Run) (hlen : l.length < 1000000) (v2 v3 : Nat) (c2 : List CV) : ∀ (rest : List Run) (i : Nat) (w : Bool × Int × Int) (s : PS), l.drop i = rest → i ≤ l.length → ranged rest →
    s.t 0 = .c (encL l) → s.t 4 = .c (.int .i64 i) → s.t 3 = .ptr 3 v3 0 → s.bx 3 = ⟨v3, .var (enc3 w)⟩ → s.t 2 = .ptr 2 v2 0 → s.bx 2 = ⟨v2, .var c2⟩ →
    (∀ s', s'.t 3 = .ptr 3 v3 0 → s'.bx 3 = ⟨v3, .var (enc3 (wideS w rest))⟩ → s'.t 2 = .ptr 2 v2 0 → s'.bx 2 = ⟨v2, .var c2⟩ → K (.x 0) s') → wP (PCallG Try.prog) (.loop b92_0) s K := by
  intro rest
  induction rest with
  | nil =>
    intro i w s hd hi hr t0 t4 t3 b3 t2 b2 hx
    refine w_loop ?_
    have hi' := get_end hd hi
    subst hi'
    rw [← put_same t0, ← put_same t4, ← put_same t3, ← box_same b3, ← put_same t2, ← box_same b2]
    unfold b92_0 r92_3 r92_4 r92_5
    repeat' (first
      | refine len_sl rfl (List.length_map _) ?_
      | refine w_seq ?_
      | refine w_ops ?_
      | refine st_nil ?_
      | refine th_n ?_
      | refine th_x ?_
      | refine w_exit ?_
      | refine w_false rfl ?_
      | refine mv_c rfl ?_
      | refine lss_f rfl rfl (by omega) ?_)
    exact hx _ rfl rfl rfl rfl
  | cons r rest ih =>
    intro i w s hd hi hr t0 t4 t3 b3 t2 b2 hx
    refine w_loop ?_
    have he := get_enc hd
    have hil := get_len hd
    have hn := get_next hd
    have hr0 := hr r (by simp)
    have hT := C_rTimes r.1 r.2 hr0.1 hr0.2
    rw [← enc3_of] at hT
    have hP := C_rPlus w (of3 (r.1 * r.2))
    rw [← put_same t0, ← put_same t4, ← put_same t3, ← box_same b3, ← put_same t2, ← box_same b2]
    unfold b92_0 r92_3 r92_4 r92_5
    repeat' (first
      | refine len_sl rfl (List.length_map _) ?_
      | refine call2 rfl rfl hT ?_
      | refine call2 rfl rfl hP ?_
      | refine w_seq ?_
      | refine w_ops ?_
      | refine w_opsD0 rfl ?_
      | refine st_nil ?_
      | refine th_n ?_
      | refine bk_n ?_
      | refine w_block ?_
      | refine w_skip ?_
      | refine w_true rfl ?_
      | refine mv_c rfl ?_
      | refine lss_t rfl rfl (by omega) ?_
      | refine add_in rfl rfl (by omega) ?_
      | refine load_rp rfl (Nat.le_of_ble_eq_true rfl) rfl ?_
      | refine load_ptr rfl (by decide) rfl (Nat.le_of_ble_eq_true rfl) rfl ?_
      | refine store_ptr rfl rfl (by decide) rfl rfl (Nat.le_of_ble_eq_true rfl) rfl ?_
      | refine fad_rp rfl (Nat.le_of_ble_eq_true rfl) rfl ?_
      | refine iaS_c rfl rfl (by omega) (by assumption) rfl ?_)
    exact ih (i + 1) (plus3 w (of3 (r.1 * r.2))) _ hn (by omega) (fun q hq => hr q (by simp [hq])) (by rfl) (by rfl) (by rfl) (by rfl) (by rfl) (by rfl) hx
theorem C_rWide (l : List Run) (hlen : l.length < 1000000) (hr : ranged l) : PCallG Try.prog 92 [.c (encL l)] (.c (.agg (enc3 (wideS (of3 0) l)))) [] := by
  refine pcallF Try.func92 c92 rfl ?_
  unfold p92 r92_0 r92_1 r92_2 r92_6
  repeat' (first
    | refine w_seq ?_
    | refine w_ops ?_
    | refine st_nil ?_
    | refine th_n ?_
    | refine w_block ?_
    | refine mv_c rfl ?_
    | refine alloc_ (fun u => ?_))
  refine wide_loop l hlen _ _ _ l 0 (of3 0) _ rfl (by omega) hr (by rfl) (by rfl) (by rfl) (by rfl) (by rfl) (by rfl) ?_
  intro s' t3 b3 t2 b2
  rw [← put_same t3, ← box_same b3, ← put_same t2, ← box_same b2]
  repeat' (first
    | refine w_seq ?_
    | refine w_ops ?_
    | refine st_nil ?_
    | refine th_n ?_
    | refine bk_x ?_
    | refine w_ret ?_
    | refine load_ptr rfl (by decide) rfl (Nat.le_of_ble_eq_true rfl) rfl ?_
    | refine store_ptr rfl rfl (by decide) rfl rfl (Nat.le_of_ble_eq_true rfl) rfl ?_)
  exact fin_r (rv_cell rfl rfl rfl rfl rv_nil) rfl
theorem C_lawSum (l : List Run) (hlen : l.length < 1000000) (hr : ranged l) : PCallG Try.prog 36 [.c (encL l)] (.c (.bool true)) [] := by
  refine pcallF Try.func36 c36 rfl ?_
  have c1 := C_Sum l (by omega) hr
  have c2 := C_rWide l hlen hr
  have c3 := C_rBack _ (wideS_in l (of3 0) (in3_of (by decide)))
  have c4 := C_rGood l (by omega)
  unfold p36 r36_0 r36_1 r36_2 r36_3 r36_4 r36_5
  cases hg : good l with
  | false =>
    rw [hg] at c4
    rw [show sumB l = (0, false) by simp [sumB, hg]] at c1
    generalize back3 (wideS (of3 0) l) = q at c3
    repeat' (first
      | refine call1 rfl c1 ?_
      | refine call1 rfl c2 ?_
      | refine call1 rfl c3 ?_
      | refine call1 rfl c4 ?_
      | refine w_seq ?_
      | refine w_ops ?_
      | refine st_nil ?_
      | refine th_n ?_
      | refine th_r ?_
      | refine w_ret ?_
      | refine w_true rfl ?_
      | refine g_yes rfl ?_
      | refine mv_c rfl ?_
      | refine pick_t rfl rfl ?_
      | refine eql_t rfl rfl (by omega) ?_
      | refine not_ rfl ?_
      | refine ext_ rfl rfl ?_)
    exact fin_r rfl rfl
  | true =>
    rw [hg] at c4
    obtain ⟨g1, g2, g3⟩ := good_iff.mp hg
    have h0 : cap = 1099511627776 := rfl
    have e : back3 (wideS (of3 0) l) = sumB l := by
      rw [wideS_of l 0 g2 hr (by simp [absI]; omega), Int.zero_add, back3_of]
      simp [sumB, hg]
    rw [e] at c3
    generalize sumB l = q at c1 c3
    obtain ⟨q1, q2⟩ := q
    cases q2 <;>
    repeat' (first
      | refine call1 rfl c1 ?_
      | refine call1 rfl c2 ?_
      | refine call1 rfl c3 ?_
      | refine call1 rfl c4 ?_
      | refine w_seq ?_
      | refine w_ops ?_
      | refine st_nil ?_
      | refine th_n ?_
      | refine w_skip ?_
      | refine w_ret ?_
      | refine w_false rfl ?_
      | refine g_yes rfl ?_
      | refine mv_c rfl ?_
      | refine pick_t rfl rfl ?_
      | refine eql_t rfl rfl (by omega) ?_
      | refine eqlB_ rfl rfl ?_
      | refine not_ rfl ?_
      | refine ext_ rfl rfl ?_)
    all_goals exact fin_r rfl rfl
theorem C_lawEnds (l : List Run) (hlen : l.length < 1000000) : PCallG Try.prog 37 [.c (encL l)] (.c (.bool true)) [] := by
  refine pcallF Try.func37 c37 rfl ?_
  have c1 := C_Least l (by omega)
  have c2 := C_Greatest l (by omega)
  have c4 := C_rGood l (by omega)
  unfold p37 r37_0 r37_1 r37_2 r37_3 r37_4 r37_5
  cases hg : good l with
  | false =>
    rw [hg] at c4
    have e : ∀ b, endB l b = (0, false) := fun b => by simp [endB, hg]
    rw [e] at c1 c2
    repeat' (first
      | refine call1 rfl c1 ?_
      | refine call1 rfl c2 ?_
      | refine call1 rfl c4 ?_
      | refine w_seq ?_
      | refine w_ops ?_
      | refine st_nil ?_
      | refine th_n ?_
      | refine th_r ?_
      | refine w_ret ?_
      | refine w_true rfl ?_
      | refine g_yes rfl ?_
      | refine g_no rfl ?_
      | refine mv_c rfl ?_
      | refine pick_t rfl rfl ?_
      | refine eql_t rfl rfl (by omega) ?_
      | refine not_ rfl ?_
      | refine ext_ rfl rfl ?_)
    exact fin_r rfl rfl
  | true =>
    rw [hg] at c4
    rcases snoc_cases l with rfl | ⟨k, r, rfl⟩
    · have e : ∀ b, endB [] b = (0, false) := fun b => by cases b <;> rfl
      rw [e] at c1 c2
      repeat' (first
        | refine call1 rfl c1 ?_
        | refine call1 rfl c2 ?_
        | refine call1 rfl c4 ?_
        | refine len_sl (es := []) rfl rfl ?_
        | refine w_seq ?_
        | refine w_ops ?_
        | refine st_nil ?_
        | refine th_n ?_
        | refine th_r ?_
        | refine w_ret ?_
        | refine w_true rfl ?_
        | refine g_yes rfl ?_
        | refine mv_c rfl ?_
        | refine pick_t rfl rfl ?_
        | refine pick_f rfl rfl ?_
        | refine eql_t rfl rfl (by omega) ?_
        | refine eqd_ rfl rfl ?_
        | refine not_ rfl ?_
        | refine ext_ rfl rfl ?_)
      exact fin_r rfl rfl
    · obtain ⟨q, t, hq⟩ : ∃ q t, k ++ [r] = q :: t := by cases k with
        | nil => exact ⟨r, [], rfl⟩
        | cons q t => exact ⟨q, t ++ [r], rfl⟩
      have e1 : endB (k ++ [r]) false = (q.1, true) := by simp only [endB, hg, if_true, Bool.false_eq_true, if_false]; rw [hq]; rfl
      have e2 : endB (k ++ [r]) true = (r.1, true) := by simp [endB, hg]
      rw [e1] at c1
      rw [e2] at c2
      have hl1 : (k ++ [r]).length = k.length + 1 := by simp
      have i1 : ((k ++ [r]).map encR)[(0 : Int).toNat]? = some (encR q) := by rw [hq]; rfl
      have i2 : ((k ++ [r]).map encR)[(((k ++ [r]).length : Int) - 1).toNat]? = some (encR r) := by
        have : (((k ++ [r]).length : Int) - 1).toNat = k.length := by omega
        rw [this]; simp
      generalize k ++ [r] = l at *
      repeat' (first
        | refine call1 rfl c1 ?_
        | refine call1 rfl c2 ?_
        | refine call1 rfl c4 ?_
        | refine len_sl rfl (List.length_map _) ?_
        | refine w_seq ?_
        | refine w_ops ?_
        | refine st_nil ?_
        | refine th_n ?_
        | refine w_skip ?_
        | refine w_ret ?_
        | refine w_false rfl ?_
        | refine g_yes rfl ?_
        | refine mv_c rfl ?_
        | refine pick_t rfl rfl ?_
        | refine pick_f rfl rfl ?_
        | refine eql_t rfl rfl (by omega) ?_
        | refine eql_f rfl rfl (by omega) ?_
        | refine not_ rfl ?_
        | refine sub_in rfl rfl (by omega) ?_
        | refine load_rp rfl (Nat.le_of_ble_eq_true rfl) rfl ?_
        | refine fad_rp rfl (Nat.le_of_ble_eq_true rfl) rfl ?_
        | refine iaS_c rfl rfl (by omega) (by assumption) rfl ?_
        | refine ext_ rfl rfl ?_)
      exact fin_r rfl rfl
end Go.Proofs.Ytcmejdkjfekoeaa
namespace Go.Proofs.Ytcmejdkjfekoeaa
open Go.Pl Go.Bag
set_option maxHeartbeats 8000000
def cmpI (a b : Int) : Int := if a < b then -1 else if b < a then 1 else 0
theorem cmpI_in (a b : Int) : -1 ≤ cmpI a b ∧ cmpI a b ≤ 1 := by unfold cmpI; split <;> (try split) <;> omega
theorem C_isNaN (a : Int) : PCallG Try.prog 124 [.c (.int .i64 a)] (.c (.bool false)) [] := by
  refine pcallF Try.func124 c124 rfl ?_
  unfold p124 r124_0 r124_1
  repeat' (first
    | refine w_seq ?_
    | refine w_ops ?_
    | refine st_nil ?_
    | refine th_n ?_
    | refine w_ret ?_
    | refine mv_c rfl ?_
    | refine neq_f rfl rfl (by omega) ?_)
  exact fin_r rfl rfl
theorem C_isNaNi (a : Int) : PCallG Try.prog 141 [.c (.int .i64 a)] (.c (.bool false)) [] := by
  refine pcallF Try.func141 c141 rfl ?_
  unfold p141 r141_0 r141_1
  repeat' (first
    | refine w_seq ?_
    | refine w_ops ?_
    | refine st_nil ?_
    | refine th_n ?_
    | refine w_ret ?_
    | refine mv_c rfl ?_
    | refine neq_f rfl rfl (by omega) ?_)
  exact fin_r rfl rfl
theorem C_isNaNu (a : Int) : PCallG Try.prog 142 [.c (.int .u64 a)] (.c (.bool false)) [] := by
  refine pcallF Try.func142 c142 rfl ?_
  unfold p142 r142_0 r142_1
  repeat' (first
    | refine w_seq ?_
    | refine w_ops ?_
    | refine st_nil ?_
    | refine th_n ?_
    | refine w_ret ?_
    | refine mv_c rfl ?_
    | refine neq_f rfl rfl (by omega) ?_)
  exact fin_r rfl rfl
theorem C_Compare (a b : Int) : PCallG Try.prog 97 [.c (.int .i64 a), .c (.int .i64 b)] (.c (.int .i64 (cmpI a b))) [] := by
  refine pcallF Try.func97 c97 rfl ?_
  have c1 := C_isNaN a
  have c2 := C_isNaN b
  unfold p97 r97_0 r97_1 r97_2 r97_3 r97_4 r97_5 r97_6 r97_7 r97_8 r97_9 r97_10 r97_11 r97_12 r97_13
  by_cases h1 : a < b
  · rw [show cmpI a b = -1 by simp [cmpI, h1]]
    repeat' (first
      | refine call1 rfl c1 ?_
      | refine call1 rfl c2 ?_
      | refine w_seq ?_
      | refine w_ops ?_
      | refine st_nil ?_
      | refine th_n ?_
      | refine th_r ?_
      | refine w_skip ?_
      | refine w_ret ?_
      | refine w_true rfl ?_
      | refine w_false rfl ?_
      | refine mv_c rfl ?_
      | refine lss_t rfl rfl (by omega) ?_)
    exact fin_r rfl rfl
  · by_cases h2 : b < a
    · rw [show cmpI a b = 1 by simp [cmpI, h1, h2]]
      repeat' (first
        | refine call1 rfl c1 ?_
        | refine call1 rfl c2 ?_
        | refine w_seq ?_
        | refine w_ops ?_
        | refine st_nil ?_
        | refine th_n ?_
        | refine th_r ?_
        | refine w_skip ?_
        | refine w_ret ?_
        | refine w_true rfl ?_
        | refine w_false rfl ?_
        | refine mv_c rfl ?_
        | refine lss_f rfl rfl (by omega) ?_
        | refine gtr_t rfl rfl (by omega) ?_)
      exact fin_r rfl rfl
    · rw [show cmpI a b = 0 by simp [cmpI, h1, h2]]
      repeat' (first
        | refine call1 rfl c1 ?_
        | refine call1 rfl c2 ?_
        | refine w_seq ?_
        | refine w_ops ?_
        | refine st_nil ?_
        | refine th_n ?_
        | refine w_skip ?_
        | refine w_ret ?_
        | refine w_false rfl ?_
        | refine mv_c rfl ?_
        | refine lss_f rfl rfl (by omega) ?_
        | refine gtr_f rfl rfl (by omega) ?_)
      exact fin_r rfl rfl
theorem C_Comparei (a b : Int) : PCallG Try.prog 126 [.c (.int .i64 a), .c (.int .i64 b)] (.c (.int .i64 (cmpI a b))) [] := by
  refine pcallF Try.func126 c126 rfl ?_
  have c1 := C_isNaNi a
  have c2 := C_isNaNi b
  unfold p126 r126_0 r126_1 r126_2 r126_3 r126_4 r126_5 r126_6 r126_7 r126_8 r126_9 r126_10 r126_11 r126_12 r126_13
  by_cases h1 : a < b
  · rw [show cmpI a b = -1 by simp [cmpI, h1]]
    repeat' (first
      | refine call1 rfl c1 ?_
      | refine call1 rfl c2 ?_
      | refine w_seq ?_
      | refine w_ops ?_
      | refine st_nil ?_
      | refine th_n ?_
      | refine th_r ?_
      | refine w_skip ?_
      | refine w_ret ?_
      | refine w_true rfl ?_
      | refine w_false rfl ?_
      | refine mv_c rfl ?_
      | refine lss_t rfl rfl (by omega) ?_)
    exact fin_r rfl rfl
  · by_cases h2 : b < a
    · rw [show cmpI a b = 1 by simp [cmpI, h1, h2]]
      repeat' (first
        | refine call1 rfl c1 ?_
        | refine call1 rfl c2 ?_
        | refine w_seq ?_
        | refine w_ops ?_
        | refine st_nil ?_
        | refine th_n ?_
        | refine th_r ?_
        | refine w_skip ?_
        | refine w_ret ?_
        | refine w_true rfl ?_
        | refine w_false rfl ?_
        | refine mv_c rfl ?_
        | refine lss_f rfl rfl (by omega) ?_
        | refine gtr_t rfl rfl (by omega) ?_)
      exact fin_r rfl rfl
    · rw [show cmpI a b = 0 by simp [cmpI, h1, h2]]
      repeat' (first
        | refine call1 rfl c1 ?_
        | refine call1 rfl c2 ?_
        | refine w_seq ?_
        | refine w_ops ?_
        | refine st_nil ?_
        | refine th_n ?_
        | refine w_skip ?_
        | refine w_ret ?_
        | refine w_false rfl ?_
        | refine mv_c rfl ?_
        | refine lss_f rfl rfl (by omega) ?_
        | refine gtr_f rfl rfl (by omega) ?_)
      exact fin_r rfl rfl
theorem C_Compareu (a b : Int) : PCallG Try.prog 128 [.c (.int .u64 a), .c (.int .u64 b)] (.c (.int .i64 (cmpI a b))) [] := by
  refine pcallF Try.func128 c128 rfl ?_
  have c1 := C_isNaNu a
  have c2 := C_isNaNu b
  unfold p128 r128_0 r128_1 r128_2 r128_3 r128_4 r128_5 r128_6 r128_7 r128_8 r128_9 r128_10 r128_11 r128_12 r128_13
  by_cases h1 : a < b
  · rw [show cmpI a b = -1 by simp [cmpI, h1]]
    repeat' (first
      | refine call1 rfl c1 ?_
      | refine call1 rfl c2 ?_
      | refine w_seq ?_
      | refine w_ops ?_
      | refine st_nil ?_
      | refine th_n ?_
      | refine th_r ?_
      | refine w_skip ?_
      | refine w_ret ?_
      | refine w_true rfl ?_
      | refine w_false rfl ?_
      | refine mv_c rfl ?_
      | refine lss_t rfl rfl (by omega) ?_)
    exact fin_r rfl rfl
  · by_cases h2 : b < a
    · rw [show cmpI a b = 1 by simp [cmpI, h1, h2]]
      repeat' (first
        | refine call1 rfl c1 ?_
        | refine call1 rfl c2 ?_
        | refine w_seq ?_
        | refine w_ops ?_
        | refine st_nil ?_
        | refine th_n ?_
        | refine th_r ?_
        | refine w_skip ?_
        | refine w_ret ?_
        | refine w_true rfl ?_
        | refine w_false rfl ?_
        | refine mv_c rfl ?_
        | refine lss_f rfl rfl (by omega) ?_
        | refine gtr_t rfl rfl (by omega) ?_)
      exact fin_r rfl rfl
    · rw [show cmpI a b = 0 by simp [cmpI, h1, h2]]
      repeat' (first
        | refine call1 rfl c1 ?_
        | refine call1 rfl c2 ?_
        | refine w_seq ?_
        | refine w_ops ?_
        | refine st_nil ?_
        | refine th_n ?_
        | refine w_skip ?_
        | refine w_ret ?_
        | refine w_false rfl ?_
        | refine mv_c rfl ?_
        | refine lss_f rfl rfl (by omega) ?_
        | refine gtr_f rfl rfl (by omega) ?_)
      exact fin_r rfl rfl
theorem C_Or2 (a b : Int) : PCallG Try.prog 127 [.c (encIL [a, b])] (.c (.int .i64 (if a ≠ 0 then a else b))) [] := by
  refine pcallF Try.func127 c127 rfl ?_
  have h0 : ([a, b].map encI)[(0 : Int).toNat]? = some (encI a) := rfl
  have h1 : ([a, b].map encI)[(1 : Int).toNat]? = some (encI b) := rfl
  unfold p127 r127_0 r127_1 r127_2 r127_8
  repeat' (first
    | refine len_sl (n := 2) rfl rfl ?_
    | refine w_seq ?_
    | refine w_ops ?_
    | refine st_nil ?_
    | refine th_n ?_
    | refine w_block ?_
    | refine mv_c rfl ?_)
  refine w_loop ?_
  unfold b127_0 r127_3 r127_4 r127_5 r127_6 r127_7
  by_cases ha : a = 0
  · rw [if_neg (by omega)]
    repeat' (first
      | refine w_seq ?_
      | refine w_ops ?_
      | refine st_nil ?_
      | refine th_n ?_
      | refine bk_n ?_
      | refine w_block ?_
      | refine w_skip ?_
      | refine w_true rfl ?_
      | refine w_false rfl ?_
      | refine mv_c rfl ?_
      | refine lss_t rfl rfl (by omega) ?_
      | refine neq_f rfl rfl (by omega) ?_
      | refine add_in rfl rfl (by omega) ?_
      | refine load_rp rfl (Nat.le_of_ble_eq_true rfl) rfl ?_
      | refine iaS_c rfl rfl (by omega) (by assumption) rfl ?_)
    refine w_loop ?_
    by_cases hb : b = 0
    · repeat' (first
      | refine w_seq ?_
      | refine w_ops ?_
      | refine st_nil ?_
      | refine th_n ?_
      | refine bk_n ?_
      | refine w_block ?_
      | refine w_skip ?_
      | refine w_true rfl ?_
      | refine w_false rfl ?_
      | refine mv_c rfl ?_
      | refine lss_t rfl rfl (by omega) ?_
      | refine neq_f rfl rfl (by omega) ?_
      | refine add_in rfl rfl (by omega) ?_
      | refine load_rp rfl (Nat.le_of_ble_eq_true rfl) rfl ?_
      | refine iaS_c rfl rfl (by omega) (by assumption) rfl ?_)
      refine w_loop ?_
      repeat' (first
        | refine w_seq ?_
        | refine w_ops ?_
        | refine st_nil ?_
        | refine th_n ?_
        | refine th_x ?_
        | refine bk_x ?_
        | refine w_exit ?_
        | refine w_ret ?_
        | refine w_false rfl ?_
        | refine mv_c rfl ?_
        | refine lss_f rfl rfl (by omega) ?_)
      exact fin_r rfl (by rw [hb]; rfl)
    · repeat' (first
      | refine w_seq ?_
      | refine w_ops ?_
      | refine st_nil ?_
      | refine th_n ?_
      | refine th_r ?_
      | refine bk_r ?_
      | refine w_block ?_
      | refine w_skip ?_
      | refine w_ret ?_
      | refine w_true rfl ?_
      | refine mv_c rfl ?_
      | refine lss_t rfl rfl (by omega) ?_
      | refine neq_t rfl rfl (by omega) ?_
      | refine load_rp rfl (Nat.le_of_ble_eq_true rfl) rfl ?_
      | refine iaS_c rfl rfl (by omega) (by assumption) rfl ?_)
      exact fin_r rfl rfl
  · rw [if_pos (by omega)]
    repeat' (first
      | refine w_seq ?_
      | refine w_ops ?_
      | refine st_nil ?_
      | refine th_n ?_
      | refine th_r ?_
      | refine bk_r ?_
      | refine w_block ?_
      | refine w_skip ?_
      | refine w_ret ?_
      | refine w_true rfl ?_
      | refine mv_c rfl ?_
      | refine lss_t rfl rfl (by omega) ?_
      | refine neq_t rfl rfl (by omega) ?_
      | refine load_rp rfl (Nat.le_of_ble_eq_true rfl) rfl ?_
      | refine iaS_c rfl rfl (by omega) (by assumption) rfl ?_)
    exact fin_r rfl rfl
def sgn2 (a b : Int) : Int := cmpI a 0 * cmpI b 0
theorem C_sign (a b : Int) : PCallG Try.prog 125 [.c (.int .i64 a), .c (.int .i64 b)] (.c (.int .i64 (sgn2 a b))) [] := by
  refine pcallF Try.func125 c125 rfl ?_
  have c1 := C_Compare a 0
  have c2 := C_Compare b 0
  have h1 := cmpI_in a 0
  have h2 := cmpI_in b 0
  unfold sgn2
  generalize cmpI a 0 = s at *
  generalize cmpI b 0 = t at *
  have h3 : -9223372036854775808 ≤ s * t ∧ s * t ≤ 9223372036854775807 := by
    obtain rfl | rfl | rfl : s = -1 ∨ s = 0 ∨ s = 1 := by omega
    all_goals omega
  unfold p125 r125_0 r125_1
  repeat' (first
    | refine call2 rfl rfl c1 ?_
    | refine call2 rfl rfl c2 ?_
    | refine mul_in rfl rfl h3 ?_
    | refine w_seq ?_
    | refine w_ops ?_
    | refine st_nil ?_
    | refine th_n ?_
    | refine w_ret ?_
    | refine mv_c rfl ?_)
  exact fin_r rfl rfl
theorem sgn2_eq (a b : Int) : sgn2 a b = cmpI (a * b) 0 := by
  unfold sgn2 cmpI
  rcases Int.lt_trichotomy a 0 with ha | ha | ha
  · rcases Int.lt_trichotomy b 0 with hb | hb | hb
    · have := Int.mul_pos_of_neg_of_neg ha hb
      rw [if_pos ha, if_pos hb, if_neg (by omega), if_pos this]; rfl
    · subst hb; simp
    · have := Int.mul_neg_of_neg_of_pos ha hb
      rw [if_pos ha, if_neg (by omega), if_pos hb, if_pos this]; rfl
  · subst ha; simp
  · rcases Int.lt_trichotomy b 0 with hb | hb | hb
    · have := Int.mul_neg_of_pos_of_neg ha hb
      rw [if_neg (by omega), if_pos ha, if_pos hb, if_pos this]; rfl
    · subst hb; simp
    · have := Int.mul_pos ha hb
      rw [if_neg (by omega), if_pos ha, if_neg (by omega), if_pos hb, if_neg (by omega), if_pos this]; rfl
theorem absI_mul (a b : Int) : absI a * absI b = absI (a * b) := by
  have h := abs_prod a b
  have h0 := Int.mul_nonneg (absI_nn a) (absI_nn b)
  rw [h] at h0 ⊢
  by_cases hc : (a < 0) ≠ (b < 0)
  · rw [if_pos hc] at h0 ⊢
    unfold absI; split <;> omega
  · rw [if_neg hc] at h0 ⊢
    unfold absI; split <;> omega
theorem cmp_ne {x y : Int} (h : cmpI x 0 ≠ cmpI y 0) : cmpI (cmpI x 0) (cmpI y 0) = cmpI x y := by
  unfold cmpI at *
  rcases Int.lt_trichotomy x 0 with hx | hx | hx <;> rcases Int.lt_trichotomy y 0 with hy | hy | hy
  all_goals
    first
      | (exfalso; apply h; simp [hx, hy, show ¬ x < 0 by omega, show ¬ y < 0 by omega]; done)
      | (exfalso; apply h; simp [hx, hy]; done)
      | skip
  all_goals
    have a1 : (if x < 0 then (-1 : Int) else if 0 < x then 1 else 0) = (if x < 0 then (-1 : Int) else if 0 < x then 1 else 0) := rfl
    (repeat' split) <;> omega
theorem cmp_abs {x y : Int} (h : cmpI x 0 = cmpI y 0) : cmpI x 0 * cmpI (absI x) (absI y) = cmpI x y := by
  unfold cmpI absI at *
  rcases Int.lt_trichotomy x 0 with hx | hx | hx <;> rcases Int.lt_trichotomy y 0 with hy | hy | hy
  all_goals
    first
      | (rw [if_pos hx] at h ⊢; rw [if_pos hx, if_pos hy]; (repeat' split) <;> omega)
      | (subst hx; subst hy; simp; done)
      | (rw [if_neg (show ¬ x < 0 by omega), if_pos hx] at h ⊢; rw [if_neg (show ¬ x < 0 by omega), if_neg (show ¬ y < 0 by omega)]; (repeat' split) <;> omega)
      | (exfalso; revert h; (repeat' split) <;> omega)
theorem cmp_parts {A B : Int} (hA : 0 ≤ A) (hB : 0 ≤ B) : (if cmpI (A / 18446744073709551616) (B / 18446744073709551616) ≠ 0 then cmpI (A / 18446744073709551616) (B / 18446744073709551616) else cmpI (A % 18446744073709551616) (B % 18446744073709551616)) = cmpI A B := by
  unfold cmpI
  by_cases h1 : A / 18446744073709551616 < B / 18446744073709551616
  · rw [if_pos h1, if_pos (by decide), if_pos (by omega)]
  · by_cases h2 : B / 18446744073709551616 < A / 18446744073709551616
    · rw [if_neg h1, if_pos h2, if_pos (by decide), if_neg (by omega), if_pos (by omega)]
    · rw [if_neg h1, if_neg h2, if_neg (by decide)]
      by_cases h3 : A % 18446744073709551616 < B % 18446744073709551616
      · rw [if_pos h3, if_pos (by omega)]
      · by_cases h4 : B % 18446744073709551616 < A % 18446744073709551616
        · rw [if_neg h3, if_pos h4, if_neg (by omega), if_pos (by omega)]
        · rw [if_neg h3, if_neg h4, if_neg (by omega), if_neg (by omega)]
theorem C_Cmp (a b c d : Int) (ha : I64 a) (hb : I64 b) (hc : I64 c) (hd : I64 d) : PCallG Try.prog 98 [.c (.int .i64 a), .c (.int .i64 b), .c (.int .i64 c), .c (.int .i64 d)] (.c (.int .i64 (cmpI (a * b) (c * d)))) [] := by
  refine pcallF Try.func98 c98 rfl ?_
  have c1 := C_sign a b
  have c2 := C_sign c d
  rw [sgn2_eq] at c1 c2
  have i1 := cmpI_in (a * b) 0
  have i2 := cmpI_in (c * d) 0
  have c3 := C_Comparei (cmpI (a * b) 0) (cmpI (c * d) 0)
  have c4 := C_Size a ha
  have c5 := C_Size b hb
  have c6 := C_Size c hc
  have c7 := C_Size d hd
  have b4 := absI_in ha
  have b5 := absI_in hb
  have b6 := absI_in hc
  have b7 := absI_in hd
  have c8 := C_Mul64 (absI a) (absI b) (by omega) (by omega)
  have c9 := C_Mul64 (absI c) (absI d) (by omega) (by omega)
  have nab := Int.mul_nonneg (absI_nn a) (absI_nn b)
  have ncd := Int.mul_nonneg (absI_nn c) (absI_nn d)
  have hp := cmp_parts nab ncd
  by_cases hne : cmpI (a * b) 0 = cmpI (c * d) 0
  · have hfin := cmp_abs hne
    rw [← absI_mul, ← absI_mul] at hfin
    rw [← hfin, ← hp]
    unfold mul64 at c8 c9
    generalize absI a * absI b / 18446744073709551616 = h1 at *
    generalize absI a * absI b % 18446744073709551616 = l1 at *
    generalize absI c * absI d / 18446744073709551616 = h2 at *
    generalize absI c * absI d % 18446744073709551616 = l2 at *
    have d1 := C_Compareu h1 h2
    have d2 := C_Compareu l1 l2
    have j1 := cmpI_in h1 h2
    have j2 := cmpI_in l1 l2
    have d3 := C_Or2 (cmpI h1 h2) (cmpI l1 l2)
    generalize cmpI h1 h2 = p at *
    generalize cmpI l1 l2 = q at *
    rw [← hne] at c2
    generalize cmpI (a * b) 0 = s at *
    have hr : -1 ≤ (if p ≠ 0 then p else q) ∧ (if p ≠ 0 then p else q) ≤ 1 := by split <;> omega
    generalize (if p ≠ 0 then p else q) = r at *
    have h3 : -9223372036854775808 ≤ s * r ∧ s * r ≤ 9223372036854775807 := by
      obtain rfl | rfl | rfl : s = -1 ∨ s = 0 ∨ s = 1 := by omega
      all_goals omega
    unfold p98 r98_0 r98_1 r98_2 r98_3 r98_4 r98_5 r98_6
    repeat' (first
      | refine call2 rfl rfl c1 ?_
      | refine call2 rfl rfl c2 ?_
      | refine call1 rfl c4 ?_
      | refine call1 rfl c5 ?_
      | refine call1 rfl c6 ?_
      | refine call1 rfl c7 ?_
      | refine call2 rfl rfl c8 ?_
      | refine call2 rfl rfl c9 ?_
      | refine call2 rfl rfl d1 ?_
      | refine call2 rfl rfl d2 ?_
      | refine call1 rfl d3 ?_
      | refine mul_in rfl rfl h3 ?_
      | refine w_seq ?_
      | refine w_ops ?_
      | refine st_nil ?_
      | refine th_n ?_
      | refine w_skip ?_
      | refine w_ret ?_
      | refine w_false rfl ?_
      | refine mv_c rfl ?_
      | refine neq_f rfl rfl (by omega) ?_
      | refine bsl_ rfl rfl ?_
      | refine ext_ rfl rfl ?_)
    exact fin_r rfl rfl
  · rw [← cmp_ne hne]
    generalize cmpI (a * b) 0 = s at *
    generalize cmpI (c * d) 0 = t at *
    unfold p98 r98_0 r98_1 r98_2 r98_3 r98_4 r98_5 r98_6
    repeat' (first
      | refine call2 rfl rfl c1 ?_
      | refine call2 rfl rfl c2 ?_
      | refine call2 rfl rfl c3 ?_
      | refine w_seq ?_
      | refine w_ops ?_
      | refine st_nil ?_
      | refine th_n ?_
      | refine th_r ?_
      | refine w_ret ?_
      | refine w_true rfl ?_
      | refine mv_c rfl ?_
      | refine neq_t rfl rfl (by omega) ?_)
    exact fin_r rfl rfl
theorem eq3_of (x y : Int) : eqC true [LK.b, LK.i, LK.i] (.agg (cellsV x)) (.agg (cellsV y)) = some (decide (x = y)) := by
  have h1 := absI_nn x
  have h2 := absI_nn y
  have e : eqC true [LK.b, LK.i, LK.i] (.agg (cellsV x)) (.agg (cellsV y)) = some ((decide (x < 0) == decide (y < 0)) && ((absI x / 18446744073709551616 == absI y / 18446744073709551616) && ((absI x % 18446744073709551616 == absI y % 18446744073709551616) && true))) := by
    simp [eqC, cellsV, shEq]
  rw [e]
  congr 1
  by_cases h : x = y
  · subst h; simp
  · rw [decide_eq_false h]
    by_cases hs : (x < 0 ↔ y < 0)
    · have : ¬ absI x = absI y := by unfold absI; split <;> split <;> omega
      have : ¬ (absI x / 18446744073709551616 = absI y / 18446744073709551616 ∧ absI x % 18446744073709551616 = absI y % 18446744073709551616) := by omega
      simp only [Bool.and_true, Bool.and_eq_false_iff, beq_eq_false_iff_ne]
      by_cases h3 : absI x / 18446744073709551616 = absI y / 18446744073709551616
      · exact .inr (.inr fun h4 => this ⟨h3, h4⟩)
      · exact .inr (.inl h3)
    · have : (decide (x < 0) == decide (y < 0)) = false := by
        rw [beq_eq_false_iff_ne]
        intro h3
        rw [decide_eq_decide] at h3
        exact hs h3
      rw [this]; rfl
theorem C_Order (x y : Int) : PCallG Try.prog 99 [.c (.agg (cellsV x)), .c (.agg (cellsV y))] (.c (.int .i64 (cmpI x y))) [] := by
  refine pcallF Try.func99 c99 rfl ?_
  have c1 := C_rLess (of3 x) (of3 y)
  rw [less3_of, enc3_of, enc3_of] at c1
  have e := eq3_of x y
  have nb : ∀ p q : Bool, eqC false [LK.b] (CV.bool p) (CV.bool q) = some (p == q) := fun p q => by simp [eqC, shEq]
  by_cases h0 : x = y
  · rw [decide_eq_true h0] at e
    rw [show cmpI x y = 0 by subst h0; simp [cmpI]]
    unfold p99 r99_0 r99_1 r99_2 r99_3 r99_4 r99_5 r99_6 r99_7 r99_8 r99_9
    repeat' (first
      | refine eqs_t rfl rfl e ?_
      | refine w_seq ?_
      | refine w_ops ?_
      | refine st_nil ?_
      | refine th_n ?_
      | refine th_r ?_
      | refine bk_r ?_
      | refine w_block ?_
      | refine w_ret ?_
      | refine w_true rfl ?_
      | refine mv_c rfl ?_
      | refine box_ rfl rfl rfl (fun u => ?_)
      | refine load_ptr rfl (by decide) rfl (Nat.le_of_ble_eq_true rfl) rfl ?_)
    exact fin_r rfl rfl
  · rw [decide_eq_false h0] at e
    unfold cellsV at c1 e ⊢
    by_cases hx : x < 0
    · by_cases hy : y < 0
      · by_cases hl : absI x < absI y
        · rw [show cmpI x y = 1 by unfold cmpI absI at *; simp [hx, hy] at hl; rw [if_neg (by omega), if_pos (by omega)]]
          rw [decide_eq_true hl] at c1
          rw [decide_eq_true hx, decide_eq_true hy] at c1 e ⊢
          unfold p99 r99_0 r99_1 r99_2 r99_3 r99_4 r99_5 r99_6 r99_7 r99_8 r99_9
          repeat' (first
            | refine eqs_t rfl rfl e ?_
            | refine call2 rfl rfl c1 ?_
            | refine eqs_f rfl rfl (nb _ _) ?_
            | refine w_seq ?_
            | refine w_ops ?_
            | refine w_opsD0 rfl ?_
            | refine st_nil ?_
            | refine th_n ?_
            | refine bk_n ?_
            | refine w_block ?_
            | refine w_skip ?_
            | refine w_ret ?_
            | refine w_false rfl ?_
            | refine mv_c rfl ?_
            | refine box_ rfl rfl rfl (fun u => ?_)
            | refine load_ptr rfl (by decide) rfl (Nat.le_of_ble_eq_true rfl) rfl ?_
            | refine fad_ptr rfl rfl rfl ?_)
          exact fin_r rfl rfl
        · rw [show cmpI x y = -1 by unfold cmpI absI at *; simp [hx, hy] at hl; rw [if_pos (by omega)]]
          rw [decide_eq_false hl] at c1
          rw [decide_eq_true hx, decide_eq_true hy] at c1 e ⊢
          unfold p99 r99_0 r99_1 r99_2 r99_3 r99_4 r99_5 r99_6 r99_7 r99_8 r99_9
          repeat' (first
            | refine eqs_t rfl rfl e ?_
            | refine call2 rfl rfl c1 ?_
            | refine eqs_f rfl rfl (nb _ _) ?_
            | refine w_seq ?_
            | refine w_ops ?_
            | refine w_opsD0 rfl ?_
            | refine st_nil ?_
            | refine th_n ?_
            | refine th_r ?_
            | refine bk_r ?_
            | refine w_block ?_
            | refine w_ret ?_
            | refine w_true rfl ?_
            | refine w_false rfl ?_
            | refine mv_c rfl ?_
            | refine box_ rfl rfl rfl (fun u => ?_)
            | refine load_ptr rfl (by decide) rfl (Nat.le_of_ble_eq_true rfl) rfl ?_
            | refine fad_ptr rfl rfl rfl ?_)
          exact fin_r rfl rfl
      · rw [show cmpI x y = -1 by unfold cmpI; rw [if_pos (by omega)]]
        rw [decide_eq_true hx, decide_eq_false hy] at c1 e ⊢
        unfold p99 r99_0 r99_1 r99_2 r99_3 r99_4 r99_5 r99_6 r99_7 r99_8 r99_9
        repeat' (first
          | refine eqs_t rfl rfl e ?_
          | refine eqs_f rfl rfl (nb _ _) ?_
          | refine w_seq ?_
          | refine w_ops ?_
          | refine st_nil ?_
          | refine th_n ?_
          | refine th_r ?_
          | refine bk_r ?_
          | refine w_block ?_
          | refine w_ret ?_
          | refine w_true rfl ?_
          | refine w_false rfl ?_
          | refine mv_c rfl ?_
          | refine box_ rfl rfl rfl (fun u => ?_)
          | refine load_ptr rfl (by decide) rfl (Nat.le_of_ble_eq_true rfl) rfl ?_
          | refine fad_ptr rfl rfl rfl ?_)
        exact fin_r rfl rfl
    · by_cases hy : y < 0
      · rw [show cmpI x y = 1 by unfold cmpI; rw [if_neg (by omega), if_pos (by omega)]]
        rw [decide_eq_false hx, decide_eq_true hy] at c1 e ⊢
        unfold p99 r99_0 r99_1 r99_2 r99_3 r99_4 r99_5 r99_6 r99_7 r99_8 r99_9
        repeat' (first
          | refine eqs_t rfl rfl e ?_
          | refine eqs_f rfl rfl (nb _ _) ?_
          | refine w_seq ?_
          | refine w_ops ?_
          | refine st_nil ?_
          | refine th_n ?_
          | refine th_r ?_
          | refine bk_r ?_
          | refine w_block ?_
          | refine w_skip ?_
          | refine w_ret ?_
          | refine w_true rfl ?_
          | refine w_false rfl ?_
          | refine mv_c rfl ?_
          | refine box_ rfl rfl rfl (fun u => ?_)
          | refine load_ptr rfl (by decide) rfl (Nat.le_of_ble_eq_true rfl) rfl ?_
          | refine fad_ptr rfl rfl rfl ?_)
        exact fin_r rfl rfl
      · by_cases hl : absI x < absI y
        · rw [show cmpI x y = -1 by unfold cmpI absI at *; simp [hx, hy] at hl; rw [if_pos (by omega)]]
          rw [decide_eq_true hl] at c1
          rw [decide_eq_false hx, decide_eq_false hy] at c1 e ⊢
          unfold p99 r99_0 r99_1 r99_2 r99_3 r99_4 r99_5 r99_6 r99_7 r99_8 r99_9
          repeat' (first
            | refine eqs_t rfl rfl e ?_
            | refine call2 rfl rfl c1 ?_
            | refine eqs_f rfl rfl (nb _ _) ?_
            | refine w_seq ?_
            | refine w_ops ?_
            | refine w_opsD0 rfl ?_
            | refine st_nil ?_
            | refine th_n ?_
            | refine th_r ?_
            | refine bk_r ?_
            | refine w_block ?_
            | refine w_ret ?_
            | refine w_true rfl ?_
            | refine w_false rfl ?_
            | refine mv_c rfl ?_
            | refine box_ rfl rfl rfl (fun u => ?_)
            | refine load_ptr rfl (by decide) rfl (Nat.le_of_ble_eq_true rfl) rfl ?_
            | refine fad_ptr rfl rfl rfl ?_)
          exact fin_r rfl rfl
        · rw [show cmpI x y = 1 by unfold cmpI absI at *; simp [hx, hy] at hl; rw [if_neg (by omega), if_pos (by omega)]]
          rw [decide_eq_false hl] at c1
          rw [decide_eq_false hx, decide_eq_false hy] at c1 e ⊢
          unfold p99 r99_0 r99_1 r99_2 r99_3 r99_4 r99_5 r99_6 r99_7 r99_8 r99_9
          repeat' (first
            | refine eqs_t rfl rfl e ?_
            | refine call2 rfl rfl c1 ?_
            | refine eqs_f rfl rfl (nb _ _) ?_
            | refine w_seq ?_
            | refine w_ops ?_
            | refine w_opsD0 rfl ?_
            | refine st_nil ?_
            | refine th_n ?_
            | refine bk_n ?_
            | refine w_block ?_
            | refine w_skip ?_
            | refine w_ret ?_
            | refine w_false rfl ?_
            | refine mv_c rfl ?_
            | refine box_ rfl rfl rfl (fun u => ?_)
            | refine load_ptr rfl (by decide) rfl (Nat.le_of_ble_eq_true rfl) rfl ?_
            | refine fad_ptr rfl rfl rfl ?_)
          exact fin_r rfl rfl
theorem C_rOf1 (a : Int) (ha : I64 a) : PCallG Try.prog 95 [.c (.int .i64 a)] (.c (.agg (cellsV a))) [] := by
  refine pcallF Try.func95 c95 rfl ?_
  have hA := absI_in ha
  have c1 := C_rSize a ha
  have e : cellsV a = [.bool (decide (a < 0)), .int .u64 0, .int .u64 (absI a)] := by
    unfold cellsV
    rw [show absI a / 18446744073709551616 = 0 by omega, show absI a % 18446744073709551616 = absI a by omega]
  rw [e]
  unfold p95 r95_0 r95_1
  repeat' (first
    | refine call1 rfl c1 ?_
    | refine w_seq ?_
    | refine w_ops ?_
    | refine st_nil ?_
    | refine th_n ?_
    | refine w_ret ?_
    | refine mv_c rfl ?_
    | refine lss_ rfl rfl ?_
    | refine alloc_ (fun u => ?_)
    | refine build_ rfl rfl ?_
    | refine store_ptr rfl rfl (by decide) rfl rfl (Nat.le_of_ble_eq_true rfl) rfl ?_)
  exact fin_r (rv_cell rfl rfl rfl rfl rv_nil) rfl
theorem C_Add (a b : Int) (ha : I64 a) (hb : I64 b) : PCallG Try.prog 96 [.c (.int .i64 a), .c (.int .i64 b)] (.c (if I64 (a + b) then .tup [.int .i64 (a + b), .bool true] else .tup [.int .i64 0, .bool false])) [] := by
  refine pcallF Try.func96 c96 rfl ?_
  have c1 := C_Total [a, b] (by simp) (fun x hx => by simp at hx; rcases hx with rfl | rfl <;> assumption)
  have e : totI [a, b] = a + b := by simp [totI]
  unfold totB at c1
  rw [e] at c1
  unfold p96 r96_0 r96_1
  by_cases h : I64 (a + b)
  · rw [if_pos h] at c1 ⊢
    repeat' (first
      | refine call1 rfl c1 ?_
      | refine w_seq ?_
      | refine w_ops ?_
      | refine st_nil ?_
      | refine th_n ?_
      | refine w_ret ?_
      | refine mv_c rfl ?_
      | refine bsl_ rfl rfl ?_
      | refine ext_ rfl rfl ?_)
    exact fin_r rfl rfl
  · rw [if_neg h] at c1 ⊢
    repeat' (first
      | refine call1 rfl c1 ?_
      | refine w_seq ?_
      | refine w_ops ?_
      | refine st_nil ?_
      | refine th_n ?_
      | refine w_ret ?_
      | refine mv_c rfl ?_
      | refine bsl_ rfl rfl ?_
      | refine ext_ rfl rfl ?_)
    exact fin_r rfl rfl
theorem C_measures (m : Int) : PCallG Try.prog 94 [.c (.int .i64 m)] (.c (.bool (decide (1 ≤ m ∧ m ≤ 2)))) [] := by
  refine pcallF Try.func94 c94 rfl ?_
  unfold p94 r94_0 r94_1
  by_cases h1 : 1 ≤ m
  · by_cases h2 : m ≤ 2
    · rw [decide_eq_true (by omega)]
      repeat' (first
        | refine w_seq ?_
        | refine w_ops ?_
        | refine st_nil ?_
        | refine th_n ?_
        | refine w_ret ?_
        | refine g_yes rfl ?_
        | refine mv_c rfl ?_
        | refine pick_t rfl rfl ?_
        | refine leq_t rfl rfl (by omega) ?_
        | refine geq_t rfl rfl (by omega) ?_)
      exact fin_r rfl rfl
    · rw [decide_eq_false (by omega)]
      repeat' (first
        | refine w_seq ?_
        | refine w_ops ?_
        | refine st_nil ?_
        | refine th_n ?_
        | refine w_ret ?_
        | refine g_yes rfl ?_
        | refine mv_c rfl ?_
        | refine pick_t rfl rfl ?_
        | refine leq_f rfl rfl (by omega) ?_
        | refine geq_t rfl rfl (by omega) ?_)
      exact fin_r rfl rfl
  · rw [decide_eq_false (by omega)]
    repeat' (first
      | refine w_seq ?_
      | refine w_ops ?_
      | refine st_nil ?_
      | refine th_n ?_
      | refine w_ret ?_
      | refine g_no rfl ?_
      | refine mv_c rfl ?_
      | refine pick_f rfl rfl ?_
      | refine geq_f rfl rfl (by omega) ?_)
    exact fin_r rfl rfl
end Go.Proofs.Ytcmejdkjfekoeaa

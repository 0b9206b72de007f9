/- Part of the proof of DeltaRows: lemmas. -/
import Derived.Test.YtcmejdkjfekoeaaDeltaRowsJ3
import Derived.Test.YtcmejdkjfekoeaaDeltaRowsJ4
set_option linter.unusedVariables false
set_option linter.unusedSimpArgs false
namespace Go.Proofs.Ytcmejdkjfekoeaa
open Go.Pl Go.Bag
set_option maxHeartbeats 8000000
def okDim (d : DimS) : Prop := d.sizes.length ≤ 9223372036854775807 ∧ d.up.length ≤ 9223372036854775807
def okCat (c : CatS) : Prop := c.dims.length ≤ 9223372036854775807 ∧ ∀ d ∈ c.dims, okDim d
theorem C_d3Size (d : DimS) (k : Int) (h : okDim d) : PCallG Try.prog 158 [.c (.agg (encDim d)), .c (.int .i64 k)] (.c (.int .i64 (sizeD d k))) [] := by
  have c1 := C_d3Good d h.1 h.2
  have h0 := h.1
  refine pcallF Try.func158 c158 rfl ?_
  unfold sizeD
  unfold encDim at c1 ⊢
  unfold p158 r158_0 r158_1 r158_2 r158_3 r158_4 r158_5
  cases hg : goodDim d with
  | false =>
    rw [hg] at c1
    rw [if_neg (by simp)]
    repeat' (first | refine call1 rfl c1 ?_ | refine w_seq ?_ | refine w_ops ?_ | refine st_nil ?_ | refine th_n ?_ | refine th_r ?_ | refine bk_r ?_ | refine w_block ?_ | refine w_ret ?_ | refine w_true rfl ?_ | refine g_no rfl ?_ | refine mv_c rfl ?_ | refine pick_t rfl rfl ?_ | refine not_ rfl ?_ | refine box_ rfl rfl rfl (fun u => ?_) | refine load_ptr rfl (by decide) rfl (Nat.le_of_ble_eq_true rfl) rfl ?_)
    exact fin_r rfl rfl
  | true =>
    rw [hg] at c1
    by_cases a : k < 0
    · rw [if_neg (by omega)]
      repeat' (first | refine call1 rfl c1 ?_ | refine w_seq ?_ | refine w_ops ?_ | refine st_nil ?_ | refine th_n ?_ | refine th_r ?_ | refine bk_r ?_ | refine w_block ?_ | refine w_ret ?_ | refine w_true rfl ?_ | refine g_yes rfl ?_ | refine g_no rfl ?_ | refine mv_c rfl ?_ | refine pick_t rfl rfl ?_ | refine pick_f rfl rfl ?_ | refine lss_t rfl rfl (by omega) ?_ | refine not_ rfl ?_ | refine box_ rfl rfl rfl (fun u => ?_) | refine load_ptr rfl (by decide) rfl (Nat.le_of_ble_eq_true rfl) rfl ?_)
      exact fin_r rfl rfl
    · by_cases b : k ≤ d.sizes.length
      · rw [if_pos ⟨rfl, by omega, b⟩]
        by_cases e : k = d.sizes.length
        · rw [if_pos e]
          repeat' (first | refine call1 rfl c1 ?_ | refine len_sl rfl (List.length_map _) ?_ | refine w_seq ?_ | refine w_ops ?_ | refine st_nil ?_ | refine th_n ?_ | refine th_r ?_ | refine bk_r ?_ | refine w_block ?_ | refine w_ret ?_ | refine w_true rfl ?_ | refine w_false rfl ?_ | refine g_yes rfl ?_ | refine mv_c rfl ?_ | refine pick_f rfl rfl ?_ | refine lss_f rfl rfl (by omega) ?_ | refine gtr_f rfl rfl (by omega) ?_ | refine eql_t rfl rfl (by omega) ?_ | refine not_ rfl ?_ | refine box_ rfl rfl rfl (fun u => ?_) | refine load_ptr rfl (by decide) rfl (Nat.le_of_ble_eq_true rfl) rfl ?_ | refine fad_ptr rfl rfl rfl ?_)
          exact fin_r rfl rfl
        · rw [if_neg e]
          have hlt : k.toNat < d.sizes.length := by omega
          have he : (d.sizes.map fun n => [CV.int .i64 n])[k.toNat]? = some [.int .i64 (d.sizes.getD k.toNat 0)] := by
            simp [List.getD, hlt]
          repeat' (first | refine call1 rfl c1 ?_ | refine len_sl rfl (List.length_map _) ?_ | refine w_seq ?_ | refine w_ops ?_ | refine st_nil ?_ | refine th_n ?_ | refine bk_n ?_ | refine w_block ?_ | refine w_skip ?_ | refine w_ret ?_ | refine w_false rfl ?_ | refine g_yes rfl ?_ | refine mv_c rfl ?_ | refine pick_f rfl rfl ?_ | refine lss_f rfl rfl (by omega) ?_ | refine gtr_f rfl rfl (by omega) ?_ | refine eql_f rfl rfl (by omega) ?_ | refine not_ rfl ?_ | refine box_ rfl rfl rfl (fun u => ?_) | refine load_rp rfl (Nat.le_of_ble_eq_true rfl) rfl ?_ | refine load_ptr rfl (by decide) rfl (Nat.le_of_ble_eq_true rfl) rfl ?_ | refine fad_ptr rfl rfl rfl ?_ | refine iaS_c rfl rfl (by omega) (by assumption) rfl ?_)
          exact fin_r rfl rfl
      · rw [if_neg (by omega)]
        repeat' (first | refine call1 rfl c1 ?_ | refine len_sl rfl (List.length_map _) ?_ | refine w_seq ?_ | refine w_ops ?_ | refine st_nil ?_ | refine th_n ?_ | refine th_r ?_ | refine bk_r ?_ | refine w_block ?_ | refine w_ret ?_ | refine w_true rfl ?_ | refine g_yes rfl ?_ | refine mv_c rfl ?_ | refine pick_f rfl rfl ?_ | refine lss_f rfl rfl (by omega) ?_ | refine gtr_t rfl rfl (by omega) ?_ | refine not_ rfl ?_ | refine box_ rfl rfl rfl (fun u => ?_) | refine load_ptr rfl (by decide) rfl (Nat.le_of_ble_eq_true rfl) rfl ?_ | refine fad_ptr rfl rfl rfl ?_)
        exact fin_r rfl rfl
theorem gc_loop {K : Ex → PS → Prop} (c : CatS) (hlen : c.dims.length ≤ 4) (hin : ∀ d ∈ c.dims, okDim d) (v : Nat) : ∀ (rest : List DimS) (i : Nat) (s : PS), c.dims.drop i = rest → i ≤ c.dims.length →
    s.t 1 = .ptr 1 v 0 → s.bx 1 = ⟨v, .var [.sl (c.dims.map encDim), .int .i64 c.m]⟩ → s.t 3 = .c (.int .i64 i) →
    (rest.all goodDim = true → ∀ s', K (.x 0) s') → (rest.all goodDim = false → ∀ s', s'.t 2 = .c (.bool false) → K .r s') → wP (PCallG Try.prog) (.loop b134_0) s K := by
  intro rest
  induction rest with
  | nil =>
    intro i s hd hi t1 b1 t3 hx hr
    refine w_loop ?_
    have := drop_end hd hi
    subst this
    rw [← put_same t1, ← box_same b1, ← put_same t3]
    unfold b134_0 r134_4 r134_5 r134_6 r134_7
    repeat' (first | refine len_sl rfl (List.length_map _) ?_ | refine w_seq ?_ | refine w_ops ?_ | refine st_nil ?_ | refine th_n ?_ | refine th_x ?_ | refine w_exit ?_ | refine w_false rfl ?_ | refine mv_c rfl ?_ | refine lss_f rfl rfl (by omega) ?_ | refine load_ptr rfl (by decide) rfl (Nat.le_of_ble_eq_true rfl) rfl ?_ | refine fad_ptr rfl rfl rfl ?_)
    exact hx rfl _
  | cons d rest ih =>
    intro i s hd hi t1 b1 t3 hx hr
    refine w_loop ?_
    have he : (c.dims.map encDim)[i]? = some (encDim d) := get_map hd
    have hil := get_slen hd
    have hn := drop_next hd
    have hdm := hin d (List.mem_of_mem_drop (by rw [hd]; simp))
    have c1 := C_d3Good d hdm.1 hdm.2
    rw [← put_same t1, ← box_same b1, ← put_same t3]
    unfold encDim at he c1
    unfold b134_0 r134_4 r134_5 r134_6 r134_7
    cases h : goodDim d with
    | true =>
      rw [h] at c1
      repeat' (first | refine len_sl rfl (List.length_map _) ?_ | refine call1 rfl c1 ?_ | refine w_seq ?_ | refine w_ops ?_ | refine st_nil ?_ | refine th_n ?_ | refine bk_n ?_ | refine w_block ?_ | refine w_skip ?_ | refine w_true rfl ?_ | refine w_false rfl ?_ | refine mv_c rfl ?_ | refine lss_t rfl rfl (by omega) ?_ | refine not_ rfl ?_ | refine add_in rfl rfl (by omega) ?_ | refine load_rp rfl (Nat.le_of_ble_eq_true rfl) rfl ?_ | refine load_ptr rfl (by decide) rfl (Nat.le_of_ble_eq_true rfl) rfl ?_ | refine fad_ptr rfl rfl rfl ?_ | refine iaS_c rfl rfl (by omega) (by assumption) rfl ?_)
      refine ih (i + 1) _ hn (by omega) (by rfl) (by rfl) (by rfl) (fun h' => hx ?_) (fun h' => hr ?_)
      · simp [h]; simpa using h'
      · simp [h]; simpa using h'
    | false =>
      rw [h] at c1
      repeat' (first | refine len_sl rfl (List.length_map _) ?_ | refine call1 rfl c1 ?_ | refine w_seq ?_ | refine w_ops ?_ | refine st_nil ?_ | refine th_n ?_ | refine th_r ?_ | refine bk_r ?_ | refine w_block ?_ | refine w_skip ?_ | refine w_ret ?_ | refine w_true rfl ?_ | refine mv_c rfl ?_ | refine lss_t rfl rfl (by omega) ?_ | refine not_ rfl ?_ | refine load_rp rfl (Nat.le_of_ble_eq_true rfl) rfl ?_ | refine load_ptr rfl (by decide) rfl (Nat.le_of_ble_eq_true rfl) rfl ?_ | refine fad_ptr rfl rfl rfl ?_ | refine iaS_c rfl rfl (by omega) (by assumption) rfl ?_)
      exact hr (by simp [h]) _ (by rfl)
theorem C_c4Good (c : CatS) (h : okCat c) : PCallG Try.prog 134 [.c (.agg (encCat c))] (.c (.bool (goodCat c))) [] := by
  have h0 := h.1
  refine pcallF Try.func134 c134 rfl ?_
  unfold encCat goodCat
  unfold p134 r134_0 r134_1 r134_2 r134_3 r134_8
  by_cases a : (1 ≤ c.dims.length ∧ c.dims.length ≤ 4) ∧ 1 ≤ c.m ∧ c.m ≤ 2
  · rw [decide_eq_true a, Bool.true_and]
    repeat' (first | refine len_sl rfl (List.length_map _) ?_ | refine w_seq ?_ | refine w_ops ?_ | refine st_nil ?_ | refine th_n ?_ | refine w_block ?_ | refine w_skip ?_ | refine w_false rfl ?_ | refine g_yes rfl ?_ | refine mv_c rfl ?_ | refine pick_f rfl rfl ?_ | refine lss_f rfl rfl (by omega) ?_ | refine gtr_f rfl rfl (by omega) ?_ | refine box_ rfl rfl rfl (fun u => ?_) | refine load_ptr rfl (by decide) rfl (Nat.le_of_ble_eq_true rfl) rfl ?_ | refine fad_ptr rfl rfl rfl ?_)
    refine gc_loop c a.1.2 h.2 _ c.dims 0 _ rfl (by omega) (by rfl) (by rfl) (by rfl) (fun h s' => ?_) (fun h s' h2 => ?_)
    · rw [h]
      repeat' (first | refine w_seq ?_ | refine w_ops ?_ | refine st_nil ?_ | refine th_n ?_ | refine bk_x ?_ | refine w_ret ?_ | refine mv_c rfl ?_)
      exact fin_r rfl rfl
    · rw [h, ← put_same h2]
      repeat' (first | refine th_r ?_ | refine bk_r ?_)
      exact fin_r rfl rfl
  · rw [decide_eq_false a, Bool.false_and]
    by_cases a1 : c.dims.length < 1
    · repeat' (first | refine len_sl rfl (List.length_map _) ?_ | refine w_seq ?_ | refine w_ops ?_ | refine st_nil ?_ | refine th_n ?_ | refine th_r ?_ | refine w_ret ?_ | refine w_true rfl ?_ | refine g_no rfl ?_ | refine mv_c rfl ?_ | refine pick_t rfl rfl ?_ | refine lss_t rfl rfl (by omega) ?_ | refine box_ rfl rfl rfl (fun u => ?_) | refine load_ptr rfl (by decide) rfl (Nat.le_of_ble_eq_true rfl) rfl ?_ | refine fad_ptr rfl rfl rfl ?_)
      exact fin_r rfl rfl
    · by_cases a2 : c.dims.length ≤ 4
      · by_cases a3 : c.m < 1
        · repeat' (first | refine len_sl rfl (List.length_map _) ?_ | refine w_seq ?_ | refine w_ops ?_ | refine st_nil ?_ | refine th_n ?_ | refine th_r ?_ | refine w_ret ?_ | refine w_true rfl ?_ | refine g_yes rfl ?_ | refine g_no rfl ?_ | refine mv_c rfl ?_ | refine pick_t rfl rfl ?_ | refine pick_f rfl rfl ?_ | refine lss_t rfl rfl (by omega) ?_ | refine lss_f rfl rfl (by omega) ?_ | refine gtr_f rfl rfl (by omega) ?_ | refine box_ rfl rfl rfl (fun u => ?_) | refine load_ptr rfl (by decide) rfl (Nat.le_of_ble_eq_true rfl) rfl ?_ | refine fad_ptr rfl rfl rfl ?_)
          exact fin_r rfl rfl
        · repeat' (first | refine len_sl rfl (List.length_map _) ?_ | refine w_seq ?_ | refine w_ops ?_ | refine st_nil ?_ | refine th_n ?_ | refine th_r ?_ | refine w_ret ?_ | refine w_true rfl ?_ | refine g_yes rfl ?_ | refine mv_c rfl ?_ | refine pick_f rfl rfl ?_ | refine lss_f rfl rfl (by omega) ?_ | refine gtr_t rfl rfl (by omega) ?_ | refine gtr_f rfl rfl (by omega) ?_ | refine box_ rfl rfl rfl (fun u => ?_) | refine load_ptr rfl (by decide) rfl (Nat.le_of_ble_eq_true rfl) rfl ?_ | refine fad_ptr rfl rfl rfl ?_)
          exact fin_r rfl rfl
      · repeat' (first | refine len_sl rfl (List.length_map _) ?_ | refine w_seq ?_ | refine w_ops ?_ | refine st_nil ?_ | refine th_n ?_ | refine th_r ?_ | refine w_ret ?_ | refine w_true rfl ?_ | refine g_yes rfl ?_ | refine g_no rfl ?_ | refine mv_c rfl ?_ | refine pick_t rfl rfl ?_ | refine pick_f rfl rfl ?_ | refine lss_f rfl rfl (by omega) ?_ | refine gtr_t rfl rfl (by omega) ?_ | refine box_ rfl rfl rfl (fun u => ?_) | refine load_ptr rfl (by decide) rfl (Nat.le_of_ble_eq_true rfl) rfl ?_ | refine fad_ptr rfl rfl rfl ?_)
        exact fin_r rfl rfl
theorem rd1 {cs : List CV} {o i : Nat} {v : CV} (h : cs[o + i]? = some v) : rdc false 1 (cs.drop (o + ((i : Nat) : Int).toNat * 1)) = v := by
  have e : ((i : Nat) : Int).toNat * 1 = i := by simp
  rw [e]
  obtain ⟨hl, rfl⟩ := List.getElem?_eq_some_iff.1 h
  simp only [rdc, Bool.false_eq_true, if_false]
  rw [List.drop_eq_getElem_cons hl]
  rfl
theorem rd1_len {cs : List CV} {o i : Nat} (h : o + i < cs.length) : (o + ((i : Nat) : Int).toNat * 1) + 1 ≤ cs.length := by
  have e : ((i : Nat) : Int).toNat * 1 = i := by simp
  omega
theorem encP_get {p : Go.Bag.Place} {i : Nat} {x : Int} {xs : List Int} (h : (placeL p).drop i = x :: xs) : (encP p)[0 + i]? = some (.int .u8 x) ∧ i < 4 := by
  have hl := get_slen h
  have h4 : i < 4 := hl
  have : encP p = (placeL p).map (.int .u8 ·) := rfl
  rw [this, Nat.zero_add, List.getElem?_map]
  have : (placeL p)[i]? = some x := by have := congrArg List.head? h; simpa [List.head?_drop] using this
  rw [this]; exact ⟨rfl, h4⟩
def u8P (p : Go.Bag.Place) : Prop := ∀ x ∈ placeL p, 0 ≤ x ∧ x ≤ 255
theorem rt_loop {K : Ex → PS → Prop} (c : CatS) (hin : ∀ d ∈ c.dims, okDim d) (hlen : c.dims.length ≤ 4) (v a : Go.Bag.Place) (hv : u8P v) (ha : u8P a) (v3 v4 v5 : Nat) : ∀ (xs ys : List Int) (ds : List DimS) (i : Nat) (s : PS), (placeL v).drop i = xs → (placeL a).drop i = ys → c.dims.drop i = ds → i ≤ 4 →
    s.t 3 = .ptr 3 v3 0 → s.bx 3 = ⟨v3, .var [.sl (c.dims.map encDim), .int .i64 c.m]⟩ → s.t 4 = .ptr 4 v4 0 → s.bx 4 = ⟨v4, .var (encP v)⟩ → s.t 5 = .ptr 5 v5 0 → s.bx 5 = ⟨v5, .var (encP a)⟩ → s.t 7 = .c (.int .i64 i) →
    (rightL ds xs ys = true → ∀ s', K (.x 0) s') → (rightL ds xs ys = false → ∀ s', s'.t 6 = .c (.bool false) → K .r s') → wP (PCallG Try.prog) (.loop b143_0) s K := by
  intro xs
  induction xs with
  | nil =>
    intro ys ds i s hx' hy hd hi t3 b3 t4 b4 t5 b5 t7 hx hr
    refine w_loop ?_
    have h4 : i = 4 := drop_end hx' hi
    subst h4
    have : ys = [] := by rw [← hy]; rfl
    subst this
    rw [← put_same t3, ← box_same b3, ← put_same t4, ← box_same b4, ← put_same t5, ← box_same b5, ← put_same t7]
    unfold b143_0 r143_4 r143_5 r143_6 r143_7 r143_8 r143_9 r143_10
    repeat' (first | refine w_seq ?_ | refine w_ops ?_ | refine st_nil ?_ | refine th_n ?_ | refine th_x ?_ | refine w_exit ?_ | refine w_false rfl ?_ | refine mv_c rfl ?_ | refine lss_f rfl rfl (by omega) ?_)
    exact hx (by cases ds <;> rfl) _
  | cons x xs ih =>
    intro ys ds i s hx' hy hd hi t3 b3 t4 b4 t5 b5 t7 hx hr
    refine w_loop ?_
    obtain ⟨gx, hi4⟩ := encP_get hx'
    have hys : ∃ y ys', ys = y :: ys' := by
      cases ys with
      | nil => have := drop_end hy (by show i ≤ 4; omega); exact absurd this (by show i ≠ 4; omega)
      | cons y ys' => exact ⟨y, ys', rfl⟩
    obtain ⟨y, ys, rfl⟩ := hys
    obtain ⟨gy, _⟩ := encP_get hy
    have nx := drop_next hx'
    have ny := drop_next hy
    have rx := rd1 gx
    have ry := rd1 gy
    have lx : (0 + ((i : Nat) : Int).toNat * 1) + 1 ≤ (encP v).length := rd1_len (by show 0 + i < 4; omega)
    have ly : (0 + ((i : Nat) : Int).toNat * 1) + 1 ≤ (encP a).length := rd1_len (by show 0 + i < 4; omega)
    have ux := hv x (List.mem_of_mem_drop (by rw [hx']; simp))
    have uy := ha y (List.mem_of_mem_drop (by rw [hy]; simp))
    rw [← put_same t3, ← box_same b3, ← put_same t4, ← box_same b4, ← put_same t5, ← box_same b5, ← put_same t7]
    generalize encP v = ev at *
    generalize encP a = ea at *
    cases ds with
    | nil =>
      have hil : c.dims.length ≤ i := List.drop_eq_nil_iff.mp hd
      simp only [rightL] at hx hr
      unfold b143_0 r143_4 r143_5 r143_6 r143_7 r143_8 r143_9 r143_10
      by_cases h1 : x = 0
      · by_cases h2 : y = 0
        · repeat' (first | refine len_sl rfl (List.length_map _) ?_ | refine load_ptr rfl (by decide) rfl lx rx ?_ | refine load_ptr rfl (by decide) rfl ly ry ?_ | refine w_seq ?_ | refine w_ops ?_ | refine st_nil ?_ | refine th_n ?_ | refine bk_n ?_ | refine w_block ?_ | refine w_skip ?_ | refine w_true rfl ?_ | refine w_false rfl ?_ | refine g_yes rfl ?_ | refine mv_c rfl ?_ | refine pick_f rfl rfl ?_ | refine lss_t rfl rfl (by omega) ?_ | refine geq_t rfl rfl (by omega) ?_ | refine neq_f rfl rfl (by omega) ?_ | refine add_in rfl rfl (by omega) ?_ | refine load_ptr rfl (by decide) rfl (Nat.le_of_ble_eq_true rfl) rfl ?_ | refine fad_ptr rfl rfl rfl ?_ | refine iaA_ptr rfl rfl rfl (by omega) rfl ?_)
          refine ih ys [] (i + 1) _ nx ny (List.drop_eq_nil_iff.mpr (by omega)) (by omega) (by rfl) (by rfl) (by rfl) (by rfl) (by rfl) (by rfl) (by rfl) (fun h => hx ?_) (fun h => hr ?_)
          · rw [h]; simp [h1, h2]
          · rw [h]; simp
        · repeat' (first | refine len_sl rfl (List.length_map _) ?_ | refine load_ptr rfl (by decide) rfl lx rx ?_ | refine load_ptr rfl (by decide) rfl ly ry ?_ | refine w_seq ?_ | refine w_ops ?_ | refine st_nil ?_ | refine th_n ?_ | refine th_r ?_ | refine bk_r ?_ | refine w_block ?_ | refine w_skip ?_ | refine w_ret ?_ | refine w_true rfl ?_ | refine g_yes rfl ?_ | refine mv_c rfl ?_ | refine pick_f rfl rfl ?_ | refine lss_t rfl rfl (by omega) ?_ | refine geq_t rfl rfl (by omega) ?_ | refine neq_t rfl rfl (by omega) ?_ | refine neq_f rfl rfl (by omega) ?_ | refine load_ptr rfl (by decide) rfl (Nat.le_of_ble_eq_true rfl) rfl ?_ | refine fad_ptr rfl rfl rfl ?_ | refine iaA_ptr rfl rfl rfl (by omega) rfl ?_)
          exact hr (by simp [h2]) _ (by rfl)
      · repeat' (first | refine len_sl rfl (List.length_map _) ?_ | refine load_ptr rfl (by decide) rfl lx rx ?_ | refine w_seq ?_ | refine w_ops ?_ | refine st_nil ?_ | refine th_n ?_ | refine th_r ?_ | refine bk_r ?_ | refine w_block ?_ | refine w_skip ?_ | refine w_ret ?_ | refine w_true rfl ?_ | refine g_no rfl ?_ | refine mv_c rfl ?_ | refine pick_t rfl rfl ?_ | refine lss_t rfl rfl (by omega) ?_ | refine geq_t rfl rfl (by omega) ?_ | refine neq_t rfl rfl (by omega) ?_ | refine load_ptr rfl (by decide) rfl (Nat.le_of_ble_eq_true rfl) rfl ?_ | refine fad_ptr rfl rfl rfl ?_ | refine iaA_ptr rfl rfl rfl (by omega) rfl ?_)
        exact hr (by simp [h1]) _ (by rfl)
    | cons d ds =>
      have he : (c.dims.map encDim)[i]? = some (encDim d) := get_map hd
      have hil := get_slen hd
      have hdm := hin d (List.mem_of_mem_drop (by rw [hd]; simp))
      have c1 := C_d3Size d x hdm
      have sd := @sizeD_in d x
      simp only [rightL] at hx hr
      generalize sizeD d x = z at *
      unfold encDim at he c1
      unfold b143_0 r143_4 r143_5 r143_6 r143_7 r143_8 r143_9 r143_10
      by_cases h1 : y < z
      · repeat' (first | refine len_sl rfl (List.length_map _) ?_ | refine load_ptr rfl (by decide) rfl lx rx ?_ | refine load_ptr rfl (by decide) rfl ly ry ?_ | refine call2 rfl rfl c1 ?_ | refine w_seq ?_ | refine w_ops ?_ | refine w_opsD0 rfl ?_ | refine st_nil ?_ | refine th_n ?_ | refine bk_n ?_ | refine w_block ?_ | refine w_skip ?_ | refine w_true rfl ?_ | refine w_false rfl ?_ | refine mv_c rfl ?_ | refine lss_t rfl rfl (by omega) ?_ | refine geq_f rfl rfl (by omega) ?_ | refine conv_in rfl (wrap64_in (by omega)) ?_ | refine add_in rfl rfl (by omega) ?_ | refine load_rp rfl (Nat.le_of_ble_eq_true rfl) rfl ?_ | refine load_ptr rfl (by decide) rfl (Nat.le_of_ble_eq_true rfl) rfl ?_ | refine fad_ptr rfl rfl rfl ?_ | refine iaA_ptr rfl rfl rfl (by omega) rfl ?_ | refine iaS_c rfl rfl (by omega) (by assumption) rfl ?_)
        refine ih ys ds (i + 1) _ nx ny (drop_next hd) (by omega) (by rfl) (by rfl) (by rfl) (by rfl) (by rfl) (by rfl) (by rfl) (fun h => hx ?_) (fun h => hr ?_)
        · rw [h]; simp [h1]
        · rw [h]; simp
      · repeat' (first | refine len_sl rfl (List.length_map _) ?_ | refine load_ptr rfl (by decide) rfl lx rx ?_ | refine load_ptr rfl (by decide) rfl ly ry ?_ | refine call2 rfl rfl c1 ?_ | refine w_seq ?_ | refine w_ops ?_ | refine w_opsD0 rfl ?_ | refine st_nil ?_ | refine th_n ?_ | refine th_r ?_ | refine bk_r ?_ | refine w_block ?_ | refine w_skip ?_ | refine w_ret ?_ | refine w_true rfl ?_ | refine w_false rfl ?_ | refine mv_c rfl ?_ | refine lss_t rfl rfl (by omega) ?_ | refine geq_t rfl rfl (by omega) ?_ | refine geq_f rfl rfl (by omega) ?_ | refine conv_in rfl (wrap64_in (by omega)) ?_ | refine load_rp rfl (Nat.le_of_ble_eq_true rfl) rfl ?_ | refine load_ptr rfl (by decide) rfl (Nat.le_of_ble_eq_true rfl) rfl ?_ | refine fad_ptr rfl rfl rfl ?_ | refine iaA_ptr rfl rfl rfl (by omega) rfl ?_ | refine iaS_c rfl rfl (by omega) (by assumption) rfl ?_)
        exact hr (by simp [h1]) _ (by rfl)
theorem C_c4Right (c : CatS) (v a : Go.Bag.Place) (h : okCat c) (hv : u8P v) (ha : u8P a) : PCallG Try.prog 143 [.c (.agg (encCat c)), .c (.agg (encP v)), .c (.agg (encP a))] (.c (.bool (rightC c v a))) [] := by
  have c1 := C_c4Good c h
  refine pcallF Try.func143 c143 rfl ?_
  unfold rightC
  unfold encCat at c1 ⊢
  unfold p143 r143_0 r143_1 r143_2 r143_3 r143_11
  cases g : goodCat c with
  | false =>
    rw [g] at c1
    rw [Bool.false_and]
    repeat' (first | refine call1 rfl c1 ?_ | refine w_seq ?_ | refine w_ops ?_ | refine st_nil ?_ | refine th_n ?_ | refine th_r ?_ | refine w_ret ?_ | refine w_true rfl ?_ | refine mv_c rfl ?_ | refine not_ rfl ?_ | refine box_ rfl rfl rfl (fun u => ?_) | refine load_ptr rfl (by decide) rfl (Nat.le_of_ble_eq_true rfl) rfl ?_)
    exact fin_r rfl rfl
  | true =>
    rw [g] at c1
    rw [Bool.true_and]
    have hl : c.dims.length ≤ 4 := by
      unfold goodCat at g
      simp only [Bool.and_eq_true, decide_eq_true_eq] at g
      exact g.1.1.2
    repeat' (first | refine call1 rfl c1 ?_ | refine w_seq ?_ | refine w_ops ?_ | refine st_nil ?_ | refine th_n ?_ | refine w_block ?_ | refine w_skip ?_ | refine w_false rfl ?_ | refine mv_c rfl ?_ | refine not_ rfl ?_ | refine box_ rfl rfl rfl (fun u => ?_) | refine load_ptr rfl (by decide) rfl (Nat.le_of_ble_eq_true rfl) rfl ?_)
    refine rt_loop c h.2 hl v a hv ha _ _ _ (placeL v) (placeL a) c.dims 0 _ rfl rfl rfl (by omega) (by rfl) (by rfl) (by rfl) (by rfl) (by rfl) (by rfl) (by rfl) (fun h s' => ?_) (fun h s' h2 => ?_)
    · rw [h]
      repeat' (first | refine w_seq ?_ | refine w_ops ?_ | refine st_nil ?_ | refine th_n ?_ | refine bk_x ?_ | refine w_ret ?_ | refine mv_c rfl ?_)
      exact fin_r rfl rfl
    · rw [h, ← put_same h2]
      repeat' (first | refine th_r ?_ | refine bk_r ?_)
      exact fin_r rfl rfl
theorem u8_zero : u8P zeroP := by
  intro x hx
  simp [placeL, zeroP] at hx
  omega
theorem C_n5Good (c : CatS) (v : Go.Bag.Place) (h : okCat c) (hv : u8P v) : PCallG Try.prog 144 [.c (.agg (encCat c)), .c (.agg (encP v))] (.c (.bool (rightC c v zeroP))) [] := by
  have c1 := C_c4Right c v zeroP h hv u8_zero
  refine pcallF Try.func144 c144 rfl ?_
  unfold encCat at c1 ⊢
  unfold encP at c1 ⊢
  unfold p144 r144_0 r144_1
  repeat' (first | refine call3 rfl rfl rfl c1 ?_ | refine w_seq ?_ | refine w_ops ?_ | refine st_nil ?_ | refine th_n ?_ | refine w_ret ?_ | refine mv_c rfl ?_ | refine box_ rfl rfl rfl (fun u => ?_) | refine build_ rfl rfl ?_ | refine load_ptr rfl (by decide) rfl (Nat.le_of_ble_eq_true rfl) rfl ?_)
  exact fin_r rfl rfl
theorem C_r7Good (c : CatS) (r : RowS) (h : okCat c) (hp : u8P r.p) : PCallG Try.prog 133 [.c (.agg (encCat c)), .c (.agg (encRow r))] (.c (.bool (goodR c r))) [] := by
  have c1 := C_c4Right c zeroP r.p h u8_zero hp
  have c2 := C_n5Good c zeroP h u8_zero
  refine pcallF Try.func133 c133 rfl ?_
  have hm : rightC c zeroP r.p = true → 1 ≤ c.m ∧ c.m ≤ 2 := fun hh => by
    unfold rightC goodCat at hh
    simp only [Bool.and_eq_true, decide_eq_true_eq] at hh
    exact hh.1.1.2
  unfold goodR
  generalize rightC c zeroP r.p = g1 at *
  generalize rightC c zeroP zeroP = g2 at *
  unfold encCat at c1 c2 ⊢
  obtain ⟨⟨p0, p1, p2, p3⟩, m0, m1⟩ := r
  show wP _ _ (initPS [.c (.agg [.sl (c.dims.map encDim), .int .i64 c.m]), .c (.agg [.int .u8 p0, .int .u8 p1, .int .u8 p2, .int .u8 p3, .int .i64 m0, .int .i64 m1])]) _
  unfold encP at c1 c2
  unfold zeroP at c1 c2
  dsimp only at c1 c2
  unfold p133 r133_0 r133_1 r133_2 r133_3 r133_8
  cases g1 with
  | false =>
    repeat' (first | refine call3 rfl rfl rfl c1 ?_ | refine w_seq ?_ | refine w_ops ?_ | refine st_nil ?_ | refine th_n ?_ | refine th_r ?_ | refine w_ret ?_ | refine w_true rfl ?_ | refine g_no rfl ?_ | refine mv_c rfl ?_ | refine pick_t rfl rfl ?_ | refine not_ rfl ?_ | refine box_ rfl rfl rfl (fun u => ?_) | refine build_ rfl rfl ?_ | refine load_ptr rfl (by decide) rfl (Nat.le_of_ble_eq_true rfl) rfl ?_ | refine fad_ptr rfl rfl rfl ?_)
    exact fin_r rfl rfl
  | true =>
    cases g2 with
    | false =>
      repeat' (first | refine call3 rfl rfl rfl c1 ?_ | refine call2 rfl rfl c2 ?_ | refine w_seq ?_ | refine w_ops ?_ | refine st_nil ?_ | refine th_n ?_ | refine th_r ?_ | refine w_ret ?_ | refine w_true rfl ?_ | refine g_yes rfl ?_ | refine mv_c rfl ?_ | refine pick_f rfl rfl ?_ | refine not_ rfl ?_ | refine box_ rfl rfl rfl (fun u => ?_) | refine build_ rfl rfl ?_ | refine load_ptr rfl (by decide) rfl (Nat.le_of_ble_eq_true rfl) rfl ?_ | refine fad_ptr rfl rfl rfl ?_)
      exact fin_r rfl rfl
    | true =>
      have hm := hm rfl
      rw [Bool.true_and, Bool.true_and]
      by_cases m2 : c.m = 2
      · rw [decide_eq_true (show c.m ≤ 0 → m0 = 0 from fun h => by omega), decide_eq_true (show c.m ≤ 1 → m1 = 0 from fun h => by omega)]
        repeat' (first | refine call3 rfl rfl rfl c1 ?_ | refine call2 rfl rfl c2 ?_ | refine w_seq ?_ | refine w_ops ?_ | refine st_nil ?_ | refine th_n ?_ | refine w_block ?_ | refine w_skip ?_ | refine w_false rfl ?_ | refine g_yes rfl ?_ | refine mv_c rfl ?_ | refine pick_f rfl rfl ?_ | refine not_ rfl ?_ | refine box_ rfl rfl rfl (fun u => ?_) | refine build_ rfl rfl ?_ | refine load_ptr rfl (by decide) rfl (Nat.le_of_ble_eq_true rfl) rfl ?_ | refine fad_ptr rfl rfl rfl ?_)
        refine w_loop ?_
        unfold b133_0 r133_4 r133_5 r133_6 r133_7
        repeat' (first | refine w_seq ?_ | refine w_ops ?_ | refine st_nil ?_ | refine th_n ?_ | refine th_x ?_ | refine bk_x ?_ | refine w_exit ?_ | refine w_ret ?_ | refine w_false rfl ?_ | refine mv_c rfl ?_ | refine lss_f rfl rfl (by omega) ?_)
        exact fin_r rfl rfl
      · have e1 : c.m = 1 := by omega
        rw [decide_eq_true (show c.m ≤ 0 → m0 = 0 from fun h => by omega), Bool.true_and]
        rw [e1] at c1 c2 ⊢
        by_cases z : m1 = 0
        · rw [decide_eq_true (show (1 : Int) ≤ 1 → m1 = 0 from fun _ => z)]
          repeat' (first | refine call3 rfl rfl rfl c1 ?_ | refine call2 rfl rfl c2 ?_ | refine w_seq ?_ | refine w_ops ?_ | refine st_nil ?_ | refine th_n ?_ | refine w_block ?_ | refine w_skip ?_ | refine w_false rfl ?_ | refine g_yes rfl ?_ | refine mv_c rfl ?_ | refine pick_f rfl rfl ?_ | refine not_ rfl ?_ | refine box_ rfl rfl rfl (fun u => ?_) | refine build_ rfl rfl ?_ | refine load_ptr rfl (by decide) rfl (Nat.le_of_ble_eq_true rfl) rfl ?_ | refine fad_ptr rfl rfl rfl ?_)
          refine w_loop ?_
          unfold b133_0 r133_4 r133_5 r133_6 r133_7
          repeat' (first | refine w_seq ?_ | refine w_ops ?_ | refine st_nil ?_ | refine th_n ?_ | refine bk_n ?_ | refine w_block ?_ | refine w_skip ?_ | refine w_true rfl ?_ | refine w_false rfl ?_ | refine mv_c rfl ?_ | refine lss_t rfl rfl (by omega) ?_ | refine neq_f rfl rfl (by omega) ?_ | refine add_in rfl rfl (by omega) ?_ | refine load_ptr rfl (by decide) rfl (Nat.le_of_ble_eq_true rfl) rfl ?_ | refine fad_ptr rfl rfl rfl ?_ | refine iaA_ptr rfl rfl rfl (by omega) rfl ?_)
          refine w_loop ?_
          repeat' (first | refine w_seq ?_ | refine w_ops ?_ | refine st_nil ?_ | refine th_n ?_ | refine th_x ?_ | refine bk_x ?_ | refine w_exit ?_ | refine w_ret ?_ | refine w_false rfl ?_ | refine mv_c rfl ?_ | refine lss_f rfl rfl (by omega) ?_)
          exact fin_r rfl rfl
        · rw [decide_eq_false (show ¬ ((1 : Int) ≤ 1 → m1 = 0) from fun h => z (h (by omega)))]
          repeat' (first | refine call3 rfl rfl rfl c1 ?_ | refine call2 rfl rfl c2 ?_ | refine w_seq ?_ | refine w_ops ?_ | refine st_nil ?_ | refine th_n ?_ | refine w_block ?_ | refine w_skip ?_ | refine w_false rfl ?_ | refine g_yes rfl ?_ | refine mv_c rfl ?_ | refine pick_f rfl rfl ?_ | refine not_ rfl ?_ | refine box_ rfl rfl rfl (fun u => ?_) | refine build_ rfl rfl ?_ | refine load_ptr rfl (by decide) rfl (Nat.le_of_ble_eq_true rfl) rfl ?_ | refine fad_ptr rfl rfl rfl ?_)
          refine w_loop ?_
          unfold b133_0 r133_4 r133_5 r133_6 r133_7
          repeat' (first | refine w_seq ?_ | refine w_ops ?_ | refine st_nil ?_ | refine th_n ?_ | refine th_r ?_ | refine bk_r ?_ | refine w_block ?_ | refine w_skip ?_ | refine w_ret ?_ | refine w_true rfl ?_ | refine mv_c rfl ?_ | refine lss_t rfl rfl (by omega) ?_ | refine neq_t rfl rfl (by omega) ?_ | refine load_ptr rfl (by decide) rfl (Nat.le_of_ble_eq_true rfl) rfl ?_ | refine fad_ptr rfl rfl rfl ?_ | refine iaA_ptr rfl rfl rfl (by omega) rfl ?_)
          exact fin_r rfl rfl
end Go.Proofs.Ytcmejdkjfekoeaa
/-
  ROWS OF A CATALOG, PLAIN: in order, their mass, what a batch makes of them. My own work.
-/
namespace Go.Bag
open Go.Pl
def ab (a : Int) : Int := if a < 0 then -a else a
def most : Int := 2305843009213693952
def massS : Int → Int → List RowS → Option (Int × Int)
  | a, b, [] => some (a, b)
  | a, b, r :: l => if ab r.m0 ≤ most - a ∧ ab r.m1 ≤ most - b then massS (a + ab r.m0) (b + ab r.m1) l else none
def massV : Option (Int × Int) → List CV
  | some (a, b) => [.int .i64 a, .int .i64 b, .bool true]
  | none => [.int .i64 0, .int .i64 0, .bool false]
def rowsOk (c : CatS) (l : List RowS) : Bool := l.all (goodR c) && (goodCat c && (massS 0 0 l).isSome)
def checkR (c : CatS) : Int → List (Bool × RowS) → Int × Int
  | _, [] => (0, 0)
  | i, q :: qs => if goodR c q.2 then checkR c (i + 1) qs else (i, 7)
def encChg (q : Bool × RowS) : List CV := .bool q.1 :: encRow q.2
def encL7 (l : List (Bool × RowS)) : CV := .sl (l.map encChg)
theorem tw_take {α : Type} (p : α → Bool) (l : List α) : l.take (l.takeWhile p).length = l.takeWhile p := by
  have h := List.takeWhile_append_dropWhile (p := p) (l := l)
  generalize l.takeWhile p = a at *
  generalize l.dropWhile p = b at *
  subst h; simp
theorem tw_drop {α : Type} (p : α → Bool) (l : List α) : l.drop (l.takeWhile p).length = l.dropWhile p := by
  have h := List.takeWhile_append_dropWhile (p := p) (l := l)
  generalize l.takeWhile p = a at *
  generalize l.dropWhile p = b at *
  subst h; simp
theorem ab_nn (a : Int) : 0 ≤ ab a := by unfold ab; split <;> omega
theorem insR_len (l : List RowS) (r : RowS) : (insR l r).length = l.length + 1 := by
  unfold insR
  have := congrArg List.length (List.takeWhile_append_dropWhile (p := fun x => !lessR r x) (l := l))
  simp only [List.length_append, List.length_cons] at *
  omega
theorem insR_perm (l : List RowS) (r : RowS) : (insR l r).Perm (r :: l) := by
  unfold insR
  refine List.perm_middle.trans (List.Perm.cons r ?_)
  rw [List.takeWhile_append_dropWhile]
theorem foldl_ins_perm : ∀ (l out : List RowS), (l.foldl insR out).Perm (l ++ out)
  | [], out => List.Perm.refl _
  | r :: l, out => by
    refine (foldl_ins_perm l (insR out r)).trans ?_
    refine ((insR_perm out r).append_left l).trans ?_
    exact List.perm_middle
theorem sortR_perm (l : List RowS) : (sortR l).Perm l := by
  have := foldl_ins_perm l []
  simpa [sortR] using this
end Go.Bag
namespace Go.Proofs.Ytcmejdkjfekoeaa
open Go.Pl Go.Bag
set_option maxHeartbeats 8000000
theorem wrap32_in {n : Int} (h : 0 ≤ n ∧ n ≤ 4294967295) : IntKind.u32.wrap n = n := by
  simp [IntKind.wrap, IntKind.bits, IntKind.signed]
  omega
section
variable {C : CallP} {l : List POp} {s : PS} {K : PS → Prop} {d : Nat} {x y : PO} {a b : Int}
theorem mul32_in (hx : s.ev x = .c (.int .u32 a)) (hy : s.ev y = .c (.int .u32 b)) (hc : 0 ≤ a * b ∧ a * b ≤ 4294967295) (h : wL C l (s.put d (.c (.int .u32 (a * b)))) K) : wL C (⟨some d, .bin .mul x y, none⟩ :: l) s K :=
  bin_ hx hy (by simp only [binC, if_true, wrap32_in hc]) h
theorem add32_in (hx : s.ev x = .c (.int .u32 a)) (hy : s.ev y = .c (.int .u32 b)) (hc : 0 ≤ a + b ∧ a + b ≤ 4294967295) (h : wL C l (s.put d (.c (.int .u32 (a + b)))) K) : wL C (⟨some d, .bin .add x y, none⟩ :: l) s K :=
  bin_ hx hy (by simp only [binC, if_true, wrap32_in hc]) h
theorem slc_suf {sz : Nat} {k : IntKind} {es zs : List (List CV)} {j : Nat} (hx : s.ev x = .c (.sl es)) (hy : s.ev y = .c (.int k (j : Int))) (hj : j ≤ es.length) (hw : ∀ e ∈ es, e.length = sz) (hz : es.drop j = zs)
    (h : wL C l (s.put d (.c (.sl zs))) K) : wL C (⟨some d, .slc sz x (some y) none, none⟩ :: l) s K :=
  slc_c (i := j) hx (by simp only [bound, PS.evc, hy]; rw [if_pos (Int.natCast_nonneg _)]; rfl) rfl ⟨hj, Nat.le_refl _⟩ hw (by simpa using hz) h
theorem slc_pre' {sz : Nat} {k : IntKind} {es zs : List (List CV)} {j : Nat} (hx : s.ev x = .c (.sl es)) (hy : s.ev y = .c (.int k (j : Int))) (hj : j ≤ es.length) (hw : ∀ e ∈ es, e.length = sz) (hz : es.take j = zs)
    (h : wL C l (s.put d (.c (.sl zs))) K) : wL C (⟨some d, .slc sz x none (some y), none⟩ :: l) s K :=
  slc_c hx rfl (by simp only [bound, PS.evc, hy]; rw [if_pos (Int.natCast_nonneg _)]; rfl) ⟨Nat.zero_le _, hj⟩ hw (by simpa using hz) h
end
theorem u8P4 {p : Go.Bag.Place} (h : u8P p) : (0 ≤ p.p0 ∧ p.p0 ≤ 255) ∧ (0 ≤ p.p1 ∧ p.p1 ≤ 255) ∧ (0 ≤ p.p2 ∧ p.p2 ≤ 255) ∧ (0 ≤ p.p3 ∧ p.p3 ≤ 255) :=
  ⟨h _ (by simp [placeL]), h _ (by simp [placeL]), h _ (by simp [placeL]), h _ (by simp [placeL])⟩
theorem C_rKey (p : Go.Bag.Place) (h : u8P p) : PCallG Try.prog 159 [.c (.agg (encP p))] (.c (.int .u32 (keyP p))) [] := by
  obtain ⟨h0, h1, h2, h3⟩ := u8P4 h
  refine pcallF Try.func159 c159 rfl ?_
  obtain ⟨p0, p1, p2, p3⟩ := p
  simp only at h0 h1 h2 h3
  unfold keyP encP
  dsimp only
  unfold p159 r159_0 r159_1 r159_2 r159_6
  repeat' (first | refine w_seq ?_ | refine w_ops ?_ | refine st_nil ?_ | refine th_n ?_ | refine w_block ?_ | refine mv_c rfl ?_ | refine box_ rfl rfl rfl (fun u => ?_))
  refine w_loop ?_
  unfold b159_0 r159_3 r159_4 r159_5
  repeat' (first | refine mul32_in rfl rfl (by omega) ?_ | refine add32_in rfl rfl (by omega) ?_ | refine conv_in rfl (wrap32_in (by omega)) ?_ | refine w_seq ?_ | refine w_ops ?_ | refine st_nil ?_ | refine th_n ?_ | refine bk_n ?_ | refine w_block ?_ | refine w_skip ?_ | refine w_true rfl ?_ | refine mv_c rfl ?_ | refine lss_t rfl rfl (by omega) ?_ | refine add_in rfl rfl (by omega) ?_ | refine load_ptr rfl (by decide) rfl (Nat.le_of_ble_eq_true rfl) rfl ?_ | refine iaA_ptr rfl rfl rfl (by omega) rfl ?_)
  refine w_loop ?_
  repeat' (first | refine mul32_in rfl rfl (by omega) ?_ | refine add32_in rfl rfl (by omega) ?_ | refine conv_in rfl (wrap32_in (by omega)) ?_ | refine w_seq ?_ | refine w_ops ?_ | refine st_nil ?_ | refine th_n ?_ | refine bk_n ?_ | refine w_block ?_ | refine w_skip ?_ | refine w_true rfl ?_ | refine mv_c rfl ?_ | refine lss_t rfl rfl (by omega) ?_ | refine add_in rfl rfl (by omega) ?_ | refine load_ptr rfl (by decide) rfl (Nat.le_of_ble_eq_true rfl) rfl ?_ | refine iaA_ptr rfl rfl rfl (by omega) rfl ?_)
  refine w_loop ?_
  repeat' (first | refine mul32_in rfl rfl (by omega) ?_ | refine add32_in rfl rfl (by omega) ?_ | refine conv_in rfl (wrap32_in (by omega)) ?_ | refine w_seq ?_ | refine w_ops ?_ | refine st_nil ?_ | refine th_n ?_ | refine bk_n ?_ | refine w_block ?_ | refine w_skip ?_ | refine w_true rfl ?_ | refine mv_c rfl ?_ | refine lss_t rfl rfl (by omega) ?_ | refine add_in rfl rfl (by omega) ?_ | refine load_ptr rfl (by decide) rfl (Nat.le_of_ble_eq_true rfl) rfl ?_ | refine iaA_ptr rfl rfl rfl (by omega) rfl ?_)
  refine w_loop ?_
  repeat' (first | refine mul32_in rfl rfl (by omega) ?_ | refine add32_in rfl rfl (by omega) ?_ | refine conv_in rfl (wrap32_in (by omega)) ?_ | refine w_seq ?_ | refine w_ops ?_ | refine st_nil ?_ | refine th_n ?_ | refine bk_n ?_ | refine w_block ?_ | refine w_skip ?_ | refine w_true rfl ?_ | refine mv_c rfl ?_ | refine lss_t rfl rfl (by omega) ?_ | refine add_in rfl rfl (by omega) ?_ | refine load_ptr rfl (by decide) rfl (Nat.le_of_ble_eq_true rfl) rfl ?_ | refine iaA_ptr rfl rfl rfl (by omega) rfl ?_)
  refine w_loop ?_
  repeat' (first | refine w_seq ?_ | refine w_ops ?_ | refine st_nil ?_ | refine th_n ?_ | refine th_x ?_ | refine bk_x ?_ | refine w_exit ?_ | refine w_ret ?_ | refine w_false rfl ?_ | refine mv_c rfl ?_ | refine lss_f rfl rfl (by omega) ?_)
  refine fin_r rfl ?_
  simp only [one_]
  congr 1
  omega
theorem eq4_P (a b : Go.Bag.Place) : eqC true [LK.i, LK.i, LK.i, LK.i] (.agg (encP a)) (.agg (encP b)) = some (decide (a = b)) := by
  obtain ⟨a0, a1, a2, a3⟩ := a
  obtain ⟨b0, b1, b2, b3⟩ := b
  have : eqC true [LK.i, LK.i, LK.i, LK.i] (.agg (encP ⟨a0, a1, a2, a3⟩)) (.agg (encP ⟨b0, b1, b2, b3⟩)) = some ((a0 == b0) && ((a1 == b1) && ((a2 == b2) && ((a3 == b3) && true)))) := by simp [eqC, shEq, encP]
  rw [this]
  congr 1
  by_cases h0 : a0 = b0 <;> by_cases h1 : a1 = b1 <;> by_cases h2 : a2 = b2 <;> by_cases h3 : a3 = b3 <;> simp [h0, h1, h2, h3]
theorem C_rLess7 (a b : RowS) (ha : u8P a.p) (hb : u8P b.p) : PCallG Try.prog 146 [.c (.agg (encRow a)), .c (.agg (encRow b))] (.c (.bool (lessR a b))) [] := by
  have c1 := C_rKey a.p ha
  have c2 := C_rKey b.p hb
  have e := eq4_P a.p b.p
  refine pcallF Try.func146 c146 rfl ?_
  unfold lessR
  by_cases hp : a.p = b.p
  · rw [decide_eq_true hp] at e
    rw [if_neg (by simpa using hp)]
    obtain ⟨⟨p0, p1, p2, p3⟩, m0, m1⟩ := a
    obtain ⟨⟨q0, q1, q2, q3⟩, n0, n1⟩ := b
    unfold encRow
    unfold encP at *
    simp only at e hp ⊢
    show wP _ _ (initPS [.c (.agg [.int .u8 p0, .int .u8 p1, .int .u8 p2, .int .u8 p3, .int .i64 m0, .int .i64 m1]), .c (.agg [.int .u8 q0, .int .u8 q1, .int .u8 q2, .int .u8 q3, .int .i64 n0, .int .i64 n1])]) _
    unfold p146 r146_0 r146_1 r146_2 r146_3 r146_8
    by_cases h0 : m0 = n0
    · rw [if_neg (by simpa using h0)]
      by_cases h1 : m1 = n1
      · rw [decide_eq_false (by omega)]
        repeat' (first | refine eqs_f rfl rfl e ?_ | refine w_seq ?_ | refine w_ops ?_ | refine st_nil ?_ | refine th_n ?_ | refine w_block ?_ | refine w_skip ?_ | refine w_false rfl ?_ | refine mv_c rfl ?_ | refine box_ rfl rfl rfl (fun u => ?_) | refine load_ptr rfl (by decide) rfl (Nat.le_of_ble_eq_true rfl) rfl ?_ | refine fad_ptr rfl rfl rfl ?_)
        refine w_loop ?_
        unfold b146_0 r146_4 r146_5 r146_6 r146_7
        repeat' (first | refine w_seq ?_ | refine w_ops ?_ | refine w_opsD0 rfl ?_ | refine st_nil ?_ | refine th_n ?_ | refine bk_n ?_ | refine w_block ?_ | refine w_skip ?_ | refine w_true rfl ?_ | refine w_false rfl ?_ | refine mv_c rfl ?_ | refine lss_t rfl rfl (by omega) ?_ | refine neq_f rfl rfl (by omega) ?_ | refine add_in rfl rfl (by omega) ?_ | refine load_ptr rfl (by decide) rfl (Nat.le_of_ble_eq_true rfl) rfl ?_ | refine fad_ptr rfl rfl rfl ?_ | refine iaA_ptr rfl rfl rfl (by omega) rfl ?_)
        refine w_loop ?_
        repeat' (first | refine w_seq ?_ | refine w_ops ?_ | refine w_opsD0 rfl ?_ | refine st_nil ?_ | refine th_n ?_ | refine bk_n ?_ | refine w_block ?_ | refine w_skip ?_ | refine w_true rfl ?_ | refine w_false rfl ?_ | refine mv_c rfl ?_ | refine lss_t rfl rfl (by omega) ?_ | refine neq_f rfl rfl (by omega) ?_ | refine add_in rfl rfl (by omega) ?_ | refine load_ptr rfl (by decide) rfl (Nat.le_of_ble_eq_true rfl) rfl ?_ | refine fad_ptr rfl rfl rfl ?_ | refine iaA_ptr rfl rfl rfl (by omega) rfl ?_)
        refine w_loop ?_
        repeat' (first | refine w_seq ?_ | refine w_ops ?_ | refine st_nil ?_ | refine th_n ?_ | refine th_x ?_ | refine bk_x ?_ | refine w_exit ?_ | refine w_ret ?_ | refine w_false rfl ?_ | refine mv_c rfl ?_ | refine lss_f rfl rfl (by omega) ?_)
        exact fin_r rfl rfl
      · repeat' (first | refine eqs_f rfl rfl e ?_ | refine w_seq ?_ | refine w_ops ?_ | refine st_nil ?_ | refine th_n ?_ | refine w_block ?_ | refine w_skip ?_ | refine w_false rfl ?_ | refine mv_c rfl ?_ | refine box_ rfl rfl rfl (fun u => ?_) | refine load_ptr rfl (by decide) rfl (Nat.le_of_ble_eq_true rfl) rfl ?_ | refine fad_ptr rfl rfl rfl ?_)
        refine w_loop ?_
        unfold b146_0 r146_4 r146_5 r146_6 r146_7
        repeat' (first | refine w_seq ?_ | refine w_ops ?_ | refine w_opsD0 rfl ?_ | refine st_nil ?_ | refine th_n ?_ | refine bk_n ?_ | refine w_block ?_ | refine w_skip ?_ | refine w_true rfl ?_ | refine w_false rfl ?_ | refine mv_c rfl ?_ | refine lss_t rfl rfl (by omega) ?_ | refine neq_f rfl rfl (by omega) ?_ | refine add_in rfl rfl (by omega) ?_ | refine load_ptr rfl (by decide) rfl (Nat.le_of_ble_eq_true rfl) rfl ?_ | refine fad_ptr rfl rfl rfl ?_ | refine iaA_ptr rfl rfl rfl (by omega) rfl ?_)
        refine w_loop ?_
        repeat' (first | refine lss_ rfl rfl ?_ | refine w_seq ?_ | refine w_ops ?_ | refine w_opsD0 rfl ?_ | refine st_nil ?_ | refine th_n ?_ | refine th_r ?_ | refine bk_r ?_ | refine w_block ?_ | refine w_skip ?_ | refine w_ret ?_ | refine w_true rfl ?_ | refine mv_c rfl ?_ | refine neq_t rfl rfl (by omega) ?_ | refine load_ptr rfl (by decide) rfl (Nat.le_of_ble_eq_true rfl) rfl ?_ | refine fad_ptr rfl rfl rfl ?_ | refine iaA_ptr rfl rfl rfl (by omega) rfl ?_)
        all_goals exact fin_r rfl rfl
    · rw [if_pos h0]
      repeat' (first | refine eqs_f rfl rfl e ?_ | refine w_seq ?_ | refine w_ops ?_ | refine st_nil ?_ | refine th_n ?_ | refine w_block ?_ | refine w_skip ?_ | refine w_false rfl ?_ | refine mv_c rfl ?_ | refine box_ rfl rfl rfl (fun u => ?_) | refine load_ptr rfl (by decide) rfl (Nat.le_of_ble_eq_true rfl) rfl ?_ | refine fad_ptr rfl rfl rfl ?_)
      refine w_loop ?_
      unfold b146_0 r146_4 r146_5 r146_6 r146_7
      repeat' (first | refine lss_ rfl rfl ?_ | refine w_seq ?_ | refine w_ops ?_ | refine w_opsD0 rfl ?_ | refine st_nil ?_ | refine th_n ?_ | refine th_r ?_ | refine bk_r ?_ | refine w_block ?_ | refine w_skip ?_ | refine w_ret ?_ | refine w_true rfl ?_ | refine mv_c rfl ?_ | refine neq_t rfl rfl (by omega) ?_ | refine load_ptr rfl (by decide) rfl (Nat.le_of_ble_eq_true rfl) rfl ?_ | refine fad_ptr rfl rfl rfl ?_ | refine iaA_ptr rfl rfl rfl (by omega) rfl ?_)
      all_goals exact fin_r rfl rfl
  · rw [decide_eq_false hp] at e
    rw [if_pos hp]
    obtain ⟨p, m0, m1⟩ := a
    obtain ⟨q, n0, n1⟩ := b
    simp only at e c1 c2 ⊢
    obtain ⟨p0, p1, p2, p3⟩ := p
    obtain ⟨q0, q1, q2, q3⟩ := q
    unfold encRow
    unfold encP at *
    simp only at e c1 c2 ⊢
    show wP _ _ (initPS [.c (.agg [.int .u8 p0, .int .u8 p1, .int .u8 p2, .int .u8 p3, .int .i64 m0, .int .i64 m1]), .c (.agg [.int .u8 q0, .int .u8 q1, .int .u8 q2, .int .u8 q3, .int .i64 n0, .int .i64 n1])]) _
    unfold p146 r146_0 r146_1 r146_2 r146_3 r146_8
    generalize keyP _ = k1 at *
    generalize keyP _ = k2 at *
    repeat' (first | refine eqs_f rfl rfl e ?_ | refine call1 rfl c1 ?_ | refine call1 rfl c2 ?_ | refine w_seq ?_ | refine w_ops ?_ | refine w_opsD0 rfl ?_ | refine st_nil ?_ | refine th_n ?_ | refine th_r ?_ | refine w_ret ?_ | refine w_true rfl ?_ | refine mv_c rfl ?_ | refine lss_ rfl rfl ?_ | refine box_ rfl rfl rfl (fun u => ?_) | refine load_ptr rfl (by decide) rfl (Nat.le_of_ble_eq_true rfl) rfl ?_ | refine fad_ptr rfl rfl rfl ?_)
    exact fin_r rfl rfl
end Go.Proofs.Ytcmejdkjfekoeaa
namespace Go.Proofs.Ytcmejdkjfekoeaa
open Go.Pl Go.Bag
set_option maxHeartbeats 8000000
theorem encRow_len (l : List RowS) : ∀ e ∈ l.map encRow, e.length = 6 := by
  intro e he
  obtain ⟨r, _, rfl⟩ := List.mem_map.mp he
  rfl
theorem ins_loop {K : Ex → PS → Prop} (l : List RowS) (hlen : l.length ≤ 100000) (hu : ∀ x ∈ l, u8P x.p) (r : RowS) (hr : u8P r.p) (v : Nat) : ∀ (rest : List RowS) (i : Nat) (s : PS), l.drop i = rest → i ≤ l.length →
    s.t 0 = .c (encRows l) → s.t 3 = .ptr 3 v 0 → s.bx 3 = ⟨v, .var (encRow r)⟩ → s.t 5 = .c (.int .i64 i) →
    (∀ s' : PS, s'.t 0 = .c (encRows l) → s'.t 3 = .ptr 3 v 0 → s'.bx 3 = ⟨v, .var (encRow r)⟩ → s'.t 5 = .c (.int .i64 ((i + (rest.takeWhile (fun x => !lessR r x)).length : Nat) : Int)) → K (.x 0) s') → wP (PCallG Try.prog) (.loop b136_0) s K := by
  intro rest
  induction rest with
  | nil =>
    intro i s hd hi t0 t3 b3 t5 hx
    refine w_loop ?_
    have := drop_end hd hi
    subst this
    rw [← put_same t0, ← put_same t3, ← box_same b3, ← put_same t5]
    unfold b136_0 r136_2 r136_3
    repeat' (first | refine len_sl rfl (List.length_map _) ?_ | refine w_seq ?_ | refine w_opsD0 rfl ?_ | refine st_nil ?_ | refine th_n ?_ | refine th_x ?_ | refine w_exit ?_ | refine w_false rfl ?_ | refine g_no rfl ?_ | refine mv_c rfl ?_ | refine pick_f rfl rfl ?_ | refine lss_f rfl rfl (by omega) ?_)
    exact hx _ (by rfl) (by rfl) (by rfl) (by rfl)
  | cons x rest ih =>
    intro i s hd hi t0 t3 b3 t5 hx
    refine w_loop ?_
    have he : (l.map encRow)[i]? = some (encRow x) := get_map hd
    have hil := get_slen hd
    have hn := drop_next hd
    have c1 := C_rLess7 r x hr (hu x (List.mem_of_mem_drop (by rw [hd]; simp)))
    rw [← put_same t0, ← put_same t3, ← box_same b3, ← put_same t5]
    rw [List.takeWhile_cons] at hx
    unfold encRow encP at he c1
    unfold b136_0 r136_2 r136_3
    cases h : lessR r x with
    | true =>
      rw [h] at c1 hx
      repeat' (first | refine len_sl rfl (List.length_map _) ?_ | refine call2 rfl rfl c1 ?_ | refine w_seq ?_ | refine w_opsD0 rfl ?_ | refine st_nil ?_ | refine th_n ?_ | refine th_x ?_ | refine w_exit ?_ | refine w_false rfl ?_ | refine g_yes rfl ?_ | refine mv_c rfl ?_ | refine pick_t rfl rfl ?_ | refine lss_t rfl rfl (by omega) ?_ | refine not_ rfl ?_ | refine load_rp rfl (Nat.le_of_ble_eq_true rfl) rfl ?_ | refine load_ptr rfl (by decide) rfl (Nat.le_of_ble_eq_true rfl) rfl ?_ | refine iaS_c rfl rfl (by omega) (by assumption) rfl ?_)
      exact hx _ (by rfl) (by rfl) (by rfl) (by rfl)
    | false =>
      rw [h] at c1 hx
      simp only [Bool.not_false, if_true, List.length_cons] at hx
      repeat' (first | refine len_sl rfl (List.length_map _) ?_ | refine call2 rfl rfl c1 ?_ | refine w_seq ?_ | refine w_ops ?_ | refine w_opsD0 rfl ?_ | refine st_nil ?_ | refine th_n ?_ | refine bk_n ?_ | refine w_block ?_ | refine w_skip ?_ | refine w_true rfl ?_ | refine g_yes rfl ?_ | refine mv_c rfl ?_ | refine pick_t rfl rfl ?_ | refine lss_t rfl rfl (by omega) ?_ | refine not_ rfl ?_ | refine add_in rfl rfl (by omega) ?_ | refine load_rp rfl (Nat.le_of_ble_eq_true rfl) rfl ?_ | refine load_ptr rfl (by decide) rfl (Nat.le_of_ble_eq_true rfl) rfl ?_ | refine iaS_c rfl rfl (by omega) (by assumption) rfl ?_)
      refine ih (i + 1) _ hn (by omega) (by rfl) (by rfl) (by rfl) (by rfl) (fun s' h0 h3 hb h5 => hx s' h0 h3 hb ?_)
      rw [h5, show i + 1 + (rest.takeWhile (fun x => !lessR r x)).length = i + ((rest.takeWhile (fun x => !lessR r x)).length + 1) by omega]
theorem C_rInsert (l : List RowS) (r : RowS) (hlen : l.length ≤ 100000) (hu : ∀ x ∈ l, u8P x.p) (hr : u8P r.p) : PCallG Try.prog 136 [.c (encRows l), .c (.agg (encRow r))] (.c (encRows (insR l r))) [] := by
  refine pcallF Try.func136 c136 rfl ?_
  unfold p136 r136_0 r136_1 r136_4
  repeat' (first | refine w_seq ?_ | refine w_ops ?_ | refine st_nil ?_ | refine th_n ?_ | refine w_block ?_ | refine mv_c rfl ?_ | refine box_ rfl rfl rfl (fun u => ?_))
  refine ins_loop l hlen hu r hr _ l 0 _ rfl (by omega) (by rfl) (by rfl) (by rfl) (by rfl) (fun s' t0 t3 b3 t5 => ?_)
  have htw : (l.takeWhile (fun x => !lessR r x)).length ≤ l.length := by
    have := congrArg List.length (List.takeWhile_append_dropWhile (p := fun x => !lessR r x) (l := l))
    simp only [List.length_append] at this
    omega
  have e1 := tw_take (fun x => !lessR r x) l
  have e2 := tw_drop (fun x => !lessR r x) l
  have ein : insR l r = l.takeWhile (fun x => !lessR r x) ++ r :: l.dropWhile (fun x => !lessR r x) := rfl
  rw [← e1, ← e2] at ein
  rw [Nat.zero_add] at t5
  generalize (l.takeWhile (fun x => !lessR r x)).length = j at *
  rw [ein]
  clear e1 e2 ein
  have hw := encRow_len l
  have hj : j ≤ (l.map encRow).length := by simpa using htw
  have hw1 : ∀ e ∈ (l.map encRow).take j, e.length = 6 := fun e he => hw e (List.mem_of_mem_take he)
  have hw2 : ∀ e ∈ (l.map encRow).drop j, e.length = 6 := fun e he => hw e (List.mem_of_mem_drop he)
  have g1 : ([] : List (List CV)).length + ((l.map encRow).take j).length ≤ maxGrow := by simp [maxGrow]; omega
  have g2 : ∀ q : List CV, ([] ++ (l.map encRow).take j).length + [q].length ≤ maxGrow := fun q => by simp [maxGrow]; omega
  have g3 : ∀ q : List CV, ([] ++ (l.map encRow).take j ++ [q]).length + ((l.map encRow).drop j).length ≤ maxGrow := fun q => by simp [maxGrow]; omega
  rw [← put_same t0, ← put_same t3, ← box_same b3, ← put_same t5]
  repeat' (first | refine slc_pre' rfl rfl hj hw rfl ?_ | refine slc_suf rfl rfl hj hw rfl ?_ | refine app_own rfl rfl rfl rfl g1 hw1 rfl rfl (fun _ _ => ?_) | refine app_own rfl rfl rfl rfl (g2 _) (by intro e he; cases List.mem_singleton.mp he; rfl) rfl rfl (fun _ _ => ?_) | refine app_cl rfl rfl rfl rfl (g3 _) hw2 rfl (fun u => ?_) | refine w_seq ?_ | with_reducible refine lb_nil ?_ | with_reducible refine lb_x ?_ | refine lb_n rfl ?_ | refine lb_s rfl rfl ?_ | refine st_nil ?_ | refine th_n ?_ | refine bk_x ?_ | refine w_opsB3 rfl (fun u u u => ?_) | refine w_ret ?_ | refine mv_c rfl ?_ | refine bsl_ rfl rfl ?_ | refine bsl_own rfl rfl rfl (fun u => ?_) | refine load_ptr rfl (by decide) rfl (Nat.le_of_ble_eq_true rfl) rfl ?_)
  refine fin_r rfl ?_
  simp [one_, encRows, List.map_take, List.map_drop]
  rfl
theorem sort_loop {K : Ex → PS → Prop} (l : List RowS) (hlen : l.length ≤ 100000) (hu : ∀ x ∈ l, u8P x.p) : ∀ (rest : List RowS) (i : Nat) (out : List RowS) (s : PS), l.drop i = rest → i ≤ l.length → out.length = i → (∀ x ∈ out, u8P x.p) →
    s.t 0 = .c (encRows l) → s.t 3 = .c (encRows out) → s.t 4 = .c (.int .i64 i) →
    (∀ s' : PS, s'.t 3 = .c (encRows (rest.foldl insR out)) → K (.x 0) s') → wP (PCallG Try.prog) (.loop b113_0) s K := by
  intro rest
  induction rest with
  | nil =>
    intro i out s hd hi ho hou t0 t3 t4 hx
    refine w_loop ?_
    have := drop_end hd hi
    subst this
    rw [← put_same t0, ← put_same t3, ← put_same t4]
    unfold b113_0 r113_3 r113_4 r113_5
    repeat' (first | refine len_sl rfl (List.length_map _) ?_ | refine w_seq ?_ | refine w_ops ?_ | refine st_nil ?_ | refine th_n ?_ | refine th_x ?_ | refine w_exit ?_ | refine w_false rfl ?_ | refine mv_c rfl ?_ | refine lss_f rfl rfl (by omega) ?_)
    exact hx _ (by rfl)
  | cons x rest ih =>
    intro i out s hd hi ho hou t0 t3 t4 hx
    refine w_loop ?_
    have he : (l.map encRow)[i]? = some (encRow x) := get_map hd
    have hil := get_slen hd
    have hn := drop_next hd
    have hux := hu x (List.mem_of_mem_drop (by rw [hd]; simp))
    have c1 := C_rInsert out x (by omega) hou hux
    have hlen2 := insR_len out x
    have hu2 : ∀ y ∈ insR out x, u8P y.p := fun y hy => by
      rcases List.mem_cons.mp ((insR_perm out x).mem_iff.mp hy) with rfl | hy
      · exact hux
      · exact hou y hy
    rw [← put_same t0, ← put_same t3, ← put_same t4]
    rw [List.foldl_cons] at hx
    generalize insR out x = o2 at *
    unfold encRow encP at he c1
    unfold b113_0 r113_3 r113_4 r113_5
    repeat' (first | refine len_sl rfl (List.length_map _) ?_ | refine call2 rfl rfl c1 ?_ | refine w_seq ?_ | refine w_ops ?_ | refine st_nil ?_ | refine th_n ?_ | refine bk_n ?_ | refine w_block ?_ | refine w_skip ?_ | refine w_true rfl ?_ | refine mv_c rfl ?_ | refine lss_t rfl rfl (by omega) ?_ | refine add_in rfl rfl (by omega) ?_ | refine load_rp rfl (Nat.le_of_ble_eq_true rfl) rfl ?_ | refine iaS_c rfl rfl (by omega) (by assumption) rfl ?_)
    exact ih (i + 1) o2 _ hn (by omega) (by omega) hu2 (by rfl) (by rfl) (by rfl) hx
theorem C_rSort (l : List RowS) (hlen : l.length ≤ 100000) (hu : ∀ x ∈ l, u8P x.p) : PCallG Try.prog 113 [.c (encRows l)] (.c (encRows (sortR l))) [] := by
  refine pcallF Try.func113 c113 rfl ?_
  unfold p113 r113_0 r113_1 r113_2 r113_6
  repeat' (first | refine w_seq ?_ | refine w_ops ?_ | refine st_nil ?_ | refine th_n ?_ | refine w_block ?_ | refine mv_c rfl ?_)
  refine sort_loop l hlen hu l 0 [] _ rfl (by omega) rfl (by simp) (by rfl) (by rfl) (by rfl) (fun s' t3 => ?_)
  rw [← put_same t3]
  repeat' (first | refine w_seq ?_ | refine w_ops ?_ | refine st_nil ?_ | refine th_n ?_ | refine bk_x ?_ | refine w_ret ?_ | refine mv_c rfl ?_)
  exact fin_r rfl rfl
theorem mass_loop {K : Ex → PS → Prop} (l : List RowS) (hin : ∀ r ∈ l, inR r) (hlen : l.length ≤ 9223372036854775807) (v2 v3 : Nat) : ∀ (rest : List RowS) (i : Nat) (a b : Int) (s : PS), l.drop i = rest → i ≤ l.length → (0 ≤ a ∧ a ≤ 2305843009213693952) → (0 ≤ b ∧ b ≤ 2305843009213693952) →
    s.t 0 = .c (encRows l) → s.t 2 = .ptr 2 v2 0 → s.bx 2 = ⟨v2, .var [.int .i64 0, .int .i64 0, .bool false]⟩ → s.t 3 = .ptr 3 v3 0 → s.bx 3 = ⟨v3, .var [.int .i64 a, .int .i64 b, .bool false]⟩ → s.t 4 = .c (.int .i64 i) →
    (∀ a' b', massS a b rest = some (a', b') → ∀ s' : PS, s'.t 2 = .ptr 2 v2 0 → s'.bx 2 = ⟨v2, .var [.int .i64 0, .int .i64 0, .bool false]⟩ → s'.t 3 = .ptr 3 v3 0 → s'.bx 3 = ⟨v3, .var [.int .i64 a', .int .i64 b', .bool false]⟩ → K (.x 0) s') →
    (massS a b rest = none → ∀ s' : PS, s'.t 2 = .ptr 2 v2 0 → s'.bx 2 = ⟨v2, .var [.int .i64 0, .int .i64 0, .bool false]⟩ → K .r s') → wP (PCallG Try.prog) (.loop b135_0) s K := by
  intro rest
  induction rest with
  | nil =>
    intro i a b s hd hi ha hb t0 t2 b2 t3 b3 t4 hx hr
    refine w_loop ?_
    have := drop_end hd hi
    subst this
    rw [← put_same t0, ← put_same t2, ← box_same b2, ← put_same t3, ← box_same b3, ← put_same t4]
    unfold b135_0 r135_3 r135_4 r135_5
    repeat' (first | refine len_sl rfl (List.length_map _) ?_ | refine w_seq ?_ | refine w_ops ?_ | refine st_nil ?_ | refine th_n ?_ | refine th_x ?_ | refine w_exit ?_ | refine w_false rfl ?_ | refine mv_c rfl ?_ | refine lss_f rfl rfl (by omega) ?_)
    exact hx a b rfl _ (by rfl) (by rfl) (by rfl) (by rfl)
  | cons r rest ih =>
    intro i a b s hd hi ha hb t0 t2 b2 t3 b3 t4 hx hr
    refine w_loop ?_
    have he : (l.map encRow)[i]? = some (encRow r) := get_map hd
    have hil := get_slen hd
    have hn := drop_next hd
    have hri := hin r (List.mem_of_mem_drop (by rw [hd]; simp))
    have c1 := C_rSize r.m0 hri.1
    have c2 := C_rSize r.m1 hri.2
    have p1 : 0 ≤ absI r.m0 := ab_nn r.m0
    have p2 : 0 ≤ absI r.m1 := ab_nn r.m1
    have q1 := (absI_in hri.1).2
    have q2 := (absI_in hri.2).2
    have em : massS a b (r :: rest) = if absI r.m0 ≤ 2305843009213693952 - a ∧ absI r.m1 ≤ 2305843009213693952 - b then massS (a + absI r.m0) (b + absI r.m1) rest else none := rfl
    rw [em] at hx hr
    clear em
    obtain ⟨⟨p0', p1', p2', p3'⟩, m0, m1⟩ := r
    simp only at *
    generalize absI m0 = z0 at *
    generalize absI m1 = z1 at *
    have he : (l.map encRow)[i]? = some [.int .u8 p0', .int .u8 p1', .int .u8 p2', .int .u8 p3', .int .i64 m0, .int .i64 m1] := he
    rw [← put_same t0, ← put_same t2, ← box_same b2, ← put_same t3, ← box_same b3, ← put_same t4]
    unfold b135_0 r135_3 r135_4 r135_5
    by_cases h0 : z0 ≤ 2305843009213693952 - a
    · repeat' (first | refine len_sl rfl (List.length_map _) ?_ | refine w_seq ?_ | refine w_ops ?_ | refine st_nil ?_ | refine th_n ?_ | refine w_block ?_ | refine w_skip ?_ | refine w_true rfl ?_ | refine mv_c rfl ?_ | refine lss_t rfl rfl (by omega) ?_)
      refine w_loop ?_
      unfold b135_1 r135_6 r135_7 r135_8 r135_9 r135_10 r135_11
      repeat' (first | refine call1 rfl c1 ?_ | refine conv_in rfl (wrapu_in (by omega)) ?_ | refine conv_in rfl (wrap64_in (by omega)) ?_ | refine w_seq ?_ | refine w_ops ?_ | refine st_nil ?_ | refine th_n ?_ | refine bk_n ?_ | refine w_block ?_ | refine w_skip ?_ | refine w_true rfl ?_ | refine w_false rfl ?_ | refine mv_c rfl ?_ | refine lss_t rfl rfl (by omega) ?_ | refine gtr_f rfl rfl (by omega) ?_ | refine add_in rfl rfl (by omega) ?_ | refine sub_in rfl rfl (by omega) ?_ | refine load_rp rfl (Nat.le_of_ble_eq_true rfl) rfl ?_ | refine load_ptr rfl (by decide) rfl (Nat.le_of_ble_eq_true rfl) rfl ?_ | refine store_ptr rfl rfl (by decide) rfl rfl (Nat.le_of_ble_eq_true rfl) rfl ?_ | refine fad_ptr rfl rfl rfl ?_ | refine fad_rp rfl (Nat.le_of_ble_eq_true rfl) rfl ?_ | refine iaA_ptr rfl rfl rfl (by omega) rfl ?_ | refine iaA_rp rfl rfl (by omega) (Nat.le_of_ble_eq_true rfl) rfl ?_ | refine iaS_c rfl rfl (by omega) (by assumption) rfl ?_)
      refine w_loop ?_
      by_cases h1 : z1 ≤ 2305843009213693952 - b
      · rw [if_pos ⟨h0, h1⟩] at hx hr
        repeat' (first | refine call1 rfl c2 ?_ | refine conv_in rfl (wrapu_in (by omega)) ?_ | refine conv_in rfl (wrap64_in (by omega)) ?_ | refine w_seq ?_ | refine w_ops ?_ | refine st_nil ?_ | refine th_n ?_ | refine bk_n ?_ | refine w_block ?_ | refine w_skip ?_ | refine w_true rfl ?_ | refine w_false rfl ?_ | refine mv_c rfl ?_ | refine lss_t rfl rfl (by omega) ?_ | refine gtr_f rfl rfl (by omega) ?_ | refine add_in rfl rfl (by omega) ?_ | refine sub_in rfl rfl (by omega) ?_ | refine load_rp rfl (Nat.le_of_ble_eq_true rfl) rfl ?_ | refine load_ptr rfl (by decide) rfl (Nat.le_of_ble_eq_true rfl) rfl ?_ | refine store_ptr rfl rfl (by decide) rfl rfl (Nat.le_of_ble_eq_true rfl) rfl ?_ | refine fad_ptr rfl rfl rfl ?_ | refine fad_rp rfl (Nat.le_of_ble_eq_true rfl) rfl ?_ | refine iaA_ptr rfl rfl rfl (by omega) rfl ?_ | refine iaA_rp rfl rfl (by omega) (Nat.le_of_ble_eq_true rfl) rfl ?_ | refine iaS_c rfl rfl (by omega) (by assumption) rfl ?_)
        refine w_loop ?_
        repeat' (first | refine w_seq ?_ | refine w_ops ?_ | refine st_nil ?_ | refine th_n ?_ | refine th_x ?_ | refine bk_n ?_ | refine bk_x ?_ | refine w_exit ?_ | refine w_false rfl ?_ | refine mv_c rfl ?_ | refine lss_f rfl rfl (by omega) ?_ | refine add_in rfl rfl (by omega) ?_)
        exact ih (i + 1) (a + z0) (b + z1) _ hn (by omega) (by omega) (by omega) (by rfl) (by rfl) (by rfl) (by rfl) (by rfl) (by rfl) hx hr
      · rw [if_neg (fun h => h1 h.2)] at hr
        repeat' (first | refine call1 rfl c2 ?_ | refine conv_in rfl (wrapu_in (by omega)) ?_ | refine w_seq ?_ | refine w_ops ?_ | refine st_nil ?_ | refine th_n ?_ | refine th_r ?_ | refine bk_r ?_ | refine w_block ?_ | refine w_skip ?_ | refine w_ret ?_ | refine w_true rfl ?_ | refine mv_c rfl ?_ | refine lss_t rfl rfl (by omega) ?_ | refine gtr_t rfl rfl (by omega) ?_ | refine sub_in rfl rfl (by omega) ?_ | refine build_ rfl rfl ?_ | refine load_rp rfl (Nat.le_of_ble_eq_true rfl) rfl ?_ | refine load_ptr rfl (by decide) rfl (Nat.le_of_ble_eq_true rfl) rfl ?_ | refine store_ptr rfl rfl (by decide) rfl rfl (Nat.le_of_ble_eq_true rfl) rfl ?_ | refine fad_ptr rfl rfl rfl ?_ | refine fad_rp rfl (Nat.le_of_ble_eq_true rfl) rfl ?_ | refine iaA_ptr rfl rfl rfl (by omega) rfl ?_ | refine iaA_rp rfl rfl (by omega) (Nat.le_of_ble_eq_true rfl) rfl ?_ | refine iaS_c rfl rfl (by omega) (by assumption) rfl ?_)
        exact hr rfl _ (by rfl) (by rfl)
    · rw [if_neg (fun h => h0 h.1)] at hr
      repeat' (first | refine len_sl rfl (List.length_map _) ?_ | refine w_seq ?_ | refine w_ops ?_ | refine st_nil ?_ | refine th_n ?_ | refine w_block ?_ | refine w_skip ?_ | refine w_true rfl ?_ | refine mv_c rfl ?_ | refine lss_t rfl rfl (by omega) ?_)
      refine w_loop ?_
      unfold b135_1 r135_6 r135_7 r135_8 r135_9 r135_10 r135_11
      repeat' (first | refine call1 rfl c1 ?_ | refine conv_in rfl (wrapu_in (by omega)) ?_ | refine w_seq ?_ | refine w_ops ?_ | refine st_nil ?_ | refine th_n ?_ | refine th_r ?_ | refine bk_r ?_ | refine w_block ?_ | refine w_skip ?_ | refine w_ret ?_ | refine w_true rfl ?_ | refine mv_c rfl ?_ | refine lss_t rfl rfl (by omega) ?_ | refine gtr_t rfl rfl (by omega) ?_ | refine sub_in rfl rfl (by omega) ?_ | refine build_ rfl rfl ?_ | refine load_rp rfl (Nat.le_of_ble_eq_true rfl) rfl ?_ | refine load_ptr rfl (by decide) rfl (Nat.le_of_ble_eq_true rfl) rfl ?_ | refine store_ptr rfl rfl (by decide) rfl rfl (Nat.le_of_ble_eq_true rfl) rfl ?_ | refine fad_ptr rfl rfl rfl ?_ | refine fad_rp rfl (Nat.le_of_ble_eq_true rfl) rfl ?_ | refine iaA_ptr rfl rfl rfl (by omega) rfl ?_ | refine iaA_rp rfl rfl (by omega) (Nat.le_of_ble_eq_true rfl) rfl ?_ | refine iaS_c rfl rfl (by omega) (by assumption) rfl ?_)
      exact hr rfl _ (by rfl) (by rfl)
theorem C_rMass (l : List RowS) (hin : ∀ r ∈ l, inR r) (hlen : l.length ≤ 9223372036854775807) : PCallG Try.prog 135 [.c (encRows l)] (.c (.agg (massV (massS 0 0 l)))) [] := by
  refine pcallF Try.func135 c135 rfl ?_
  unfold p135 r135_0 r135_1 r135_2 r135_12 r135_13
  repeat' (first | refine w_seq ?_ | refine w_ops ?_ | refine st_nil ?_ | refine th_n ?_ | refine w_block ?_ | refine mv_c rfl ?_ | refine alloc_ (fun u => ?_))
  refine mass_loop l hin hlen _ _ l 0 0 0 _ rfl (by omega) (by omega) (by omega) (by rfl) (by rfl) (by rfl) (by rfl) (by rfl) (by rfl) (fun a b h s' t2 b2 t3 b3 => ?_) (fun h s' t2 b2 => ?_)
  · rw [h, ← put_same t2, ← box_same b2, ← put_same t3, ← box_same b3]
    repeat' (first | refine w_seq ?_ | refine w_ops ?_ | refine st_nil ?_ | refine th_n ?_ | refine bk_x ?_ | refine w_ret ?_ | refine load_ptr rfl (by decide) rfl (Nat.le_of_ble_eq_true rfl) rfl ?_ | refine store_ptr rfl rfl (by decide) rfl rfl (Nat.le_of_ble_eq_true rfl) rfl ?_ | refine fad_ptr rfl rfl rfl ?_)
    exact fin_r (rv_cell rfl rfl rfl rfl rv_nil) rfl
  · rw [h, ← put_same t2, ← box_same b2]
    repeat' (first | refine th_r ?_ | refine bk_r ?_)
    exact fin_r (rv_cell rfl rfl rfl rfl rv_nil) rfl
end Go.Proofs.Ytcmejdkjfekoeaa
namespace Go.Proofs.Ytcmejdkjfekoeaa
open Go.Pl Go.Bag
set_option maxHeartbeats 8000000
theorem rows_loop {K : Ex → PS → Prop} (c : CatS) (h : okCat c) (l : List RowS) (hlen : l.length ≤ 9223372036854775807) (hu : ∀ x ∈ l, u8P x.p) (v : Nat) : ∀ (rest : List RowS) (i : Nat) (s : PS), l.drop i = rest → i ≤ l.length →
    s.t 1 = .c (encRows l) → s.t 2 = .ptr 2 v 0 → s.bx 2 = ⟨v, .var (encCat c)⟩ → s.t 5 = .c (.int .i64 i) →
    (rest.all (goodR c) = true → ∀ s' : PS, s'.t 1 = .c (encRows l) → s'.t 2 = .ptr 2 v 0 → s'.bx 2 = ⟨v, .var (encCat c)⟩ → K (.x 0) s') →
    (rest.all (goodR c) = false → ∀ s' : PS, s'.t 4 = .c (.bool false) → K .r s') → wP (PCallG Try.prog) (.loop b111_0) s K := by
  intro rest
  induction rest with
  | nil =>
    intro i s hd hi t1 t2 b2 t5 hx hr
    refine w_loop ?_
    have := drop_end hd hi
    subst this
    rw [← put_same t1, ← put_same t2, ← box_same b2, ← put_same t5]
    unfold b111_0 r111_2 r111_3 r111_4 r111_5
    repeat' (first | refine len_sl rfl (List.length_map _) ?_ | refine w_seq ?_ | refine w_ops ?_ | refine st_nil ?_ | refine th_n ?_ | refine th_x ?_ | refine w_exit ?_ | refine w_false rfl ?_ | refine mv_c rfl ?_ | refine lss_f rfl rfl (by omega) ?_)
    exact hx rfl _ (by rfl) (by rfl) (by rfl)
  | cons r rest ih =>
    intro i s hd hi t1 t2 b2 t5 hx hr
    refine w_loop ?_
    have he : (l.map encRow)[i]? = some (encRow r) := get_map hd
    have hil := get_slen hd
    have hn := drop_next hd
    have c1 := C_r7Good c r h (hu r (List.mem_of_mem_drop (by rw [hd]; simp)))
    rw [← put_same t1, ← put_same t2, ← box_same b2, ← put_same t5]
    unfold encRow encP at he c1
    simp only [List.all_cons] at hx hr
    unfold encCat at *
    unfold b111_0 r111_2 r111_3 r111_4 r111_5
    cases g : goodR c r with
    | true =>
      rw [g] at c1 hx hr
      rw [Bool.true_and] at hx hr
      repeat' (first | refine len_sl rfl (List.length_map _) ?_ | refine call2 rfl rfl c1 ?_ | refine w_seq ?_ | refine w_ops ?_ | refine w_opsD0 rfl ?_ | refine st_nil ?_ | refine th_n ?_ | refine bk_n ?_ | refine w_block ?_ | refine w_skip ?_ | refine w_true rfl ?_ | refine w_false rfl ?_ | refine mv_c rfl ?_ | refine lss_t rfl rfl (by omega) ?_ | refine not_ rfl ?_ | refine add_in rfl rfl (by omega) ?_ | refine load_rp rfl (Nat.le_of_ble_eq_true rfl) rfl ?_ | refine load_ptr rfl (by decide) rfl (Nat.le_of_ble_eq_true rfl) rfl ?_ | refine iaS_c rfl rfl (by omega) (by assumption) rfl ?_)
      exact ih (i + 1) _ hn (by omega) (by rfl) (by rfl) (by rfl) (by rfl) hx hr
    | false =>
      rw [g] at c1 hr
      rw [Bool.false_and] at hr
      repeat' (first | refine len_sl rfl (List.length_map _) ?_ | refine call2 rfl rfl c1 ?_ | refine w_seq ?_ | refine w_ops ?_ | refine w_opsD0 rfl ?_ | refine st_nil ?_ | refine th_n ?_ | refine th_r ?_ | refine bk_r ?_ | refine w_block ?_ | refine w_skip ?_ | refine w_ret ?_ | refine w_true rfl ?_ | refine mv_c rfl ?_ | refine lss_t rfl rfl (by omega) ?_ | refine not_ rfl ?_ | refine load_rp rfl (Nat.le_of_ble_eq_true rfl) rfl ?_ | refine load_ptr rfl (by decide) rfl (Nat.le_of_ble_eq_true rfl) rfl ?_ | refine iaS_c rfl rfl (by omega) (by assumption) rfl ?_)
      exact hr rfl _ (by rfl)
theorem C_rRows (c : CatS) (h : okCat c) (l : List RowS) (hlen : l.length ≤ 9223372036854775807) (hu : ∀ x ∈ l, u8P x.p) (hin : ∀ r ∈ l, inR r) : PCallG Try.prog 111 [.c (.agg (encCat c)), .c (encRows l)] (.c (.bool (rowsOk c l))) [] := by
  have c1 := C_c4Good c h
  have c2 := C_rMass l hin hlen
  refine pcallF Try.func111 c111 rfl ?_
  unfold rowsOk
  unfold p111 r111_0 r111_1 r111_6
  repeat' (first | refine w_seq ?_ | refine w_ops ?_ | refine st_nil ?_ | refine th_n ?_ | refine w_block ?_ | refine mv_c rfl ?_ | refine box_ rfl rfl rfl (fun u => ?_))
  refine rows_loop c h l hlen hu _ l 0 _ rfl (by omega) (by rfl) (by rfl) (by rfl) (by rfl) (fun g s' t1 t2 b2 => ?_) (fun g s' t4 => ?_)
  · rw [g, Bool.true_and, ← put_same t1, ← put_same t2, ← box_same b2]
    clear g
    unfold encCat at *
    cases q : goodCat c with
    | false =>
      rw [q] at c1
      repeat' (first | refine call1 rfl c1 ?_ | refine w_seq ?_ | refine w_ops ?_ | refine st_nil ?_ | refine th_n ?_ | refine bk_x ?_ | refine w_ret ?_ | refine g_no rfl ?_ | refine mv_c rfl ?_ | refine pick_f rfl rfl ?_ | refine load_ptr rfl (by decide) rfl (Nat.le_of_ble_eq_true rfl) rfl ?_)
      exact fin_r rfl rfl
    | true =>
      rw [q] at c1
      rw [Bool.true_and]
      cases m : massS 0 0 l with
      | none =>
        rw [m] at c2
        unfold massV at c2
        repeat' (first | refine call1 rfl c1 ?_ | refine call1 rfl c2 ?_ | refine w_seq ?_ | refine w_ops ?_ | refine st_nil ?_ | refine th_n ?_ | refine bk_x ?_ | refine w_ret ?_ | refine g_yes rfl ?_ | refine mv_c rfl ?_ | refine pick_t rfl rfl ?_ | refine load_ptr rfl (by decide) rfl (Nat.le_of_ble_eq_true rfl) rfl ?_ | refine fld_ rfl (Nat.le_of_ble_eq_true rfl) rfl ?_)
        exact fin_r rfl rfl
      | some ab =>
        obtain ⟨a, b⟩ := ab
        rw [m] at c2
        unfold massV at c2
        repeat' (first | refine call1 rfl c1 ?_ | refine call1 rfl c2 ?_ | refine w_seq ?_ | refine w_ops ?_ | refine st_nil ?_ | refine th_n ?_ | refine bk_x ?_ | refine w_ret ?_ | refine g_yes rfl ?_ | refine mv_c rfl ?_ | refine pick_t rfl rfl ?_ | refine load_ptr rfl (by decide) rfl (Nat.le_of_ble_eq_true rfl) rfl ?_ | refine fld_ rfl (Nat.le_of_ble_eq_true rfl) rfl ?_)
        exact fin_r rfl rfl
  · rw [g, Bool.false_and, ← put_same t4]
    repeat' (first | refine th_r ?_ | refine bk_r ?_)
    exact fin_r rfl rfl
def toldV (l : CV) (p : Int × Int) : CV := .agg [l, .int .i64 p.1, .int .i64 p.2]
theorem chk_loop {K : Ex → PS → Prop} (c : CatS) (h : okCat c) (l : List (Bool × RowS)) (hlen : l.length ≤ 40) (hu : ∀ x ∈ l, u8P x.2.p) (v2 v4 : Nat) : ∀ (rest : List (Bool × RowS)) (i : Nat) (s : PS), l.drop i = rest → i ≤ l.length →
    s.t 1 = .c (encL7 l) → s.t 2 = .ptr 2 v2 0 → s.bx 2 = ⟨v2, .var (encCat c)⟩ → s.t 4 = .ptr 4 v4 0 → s.bx 4 = ⟨v4, .var [.sl [], .int .i64 0, .int .i64 0]⟩ → s.t 5 = .c (.int .i64 i) →
    ((checkR c i rest) = (0, 0) → ∀ s' : PS, s'.t 4 = .ptr 4 v4 0 → s'.bx 4 = ⟨v4, .var [.sl [], .int .i64 0, .int .i64 0]⟩ → K (.x 0) s') →
    (∀ s' : PS, s'.t 4 = .ptr 4 v4 0 → s'.bx 4 = ⟨v4, .var [.sl [], .int .i64 (checkR c i rest).1, .int .i64 (checkR c i rest).2]⟩ → K .r s') → wP (PCallG Try.prog) (.loop b112_0) s K := by
  intro rest
  induction rest with
  | nil =>
    intro i s hd hi t1 t2 b2 t4 b4 t5 hx hr
    refine w_loop ?_
    have := drop_end hd hi
    subst this
    rw [← put_same t1, ← put_same t2, ← box_same b2, ← put_same t4, ← box_same b4, ← put_same t5]
    unfold b112_0 r112_4 r112_5 r112_6 r112_7
    repeat' (first | refine len_sl rfl (List.length_map _) ?_ | refine w_seq ?_ | refine w_ops ?_ | refine st_nil ?_ | refine th_n ?_ | refine th_x ?_ | refine w_exit ?_ | refine w_false rfl ?_ | refine mv_c rfl ?_ | refine lss_f rfl rfl (by omega) ?_)
    exact hx rfl _ (by rfl) (by rfl)
  | cons q rest ih =>
    intro i s hd hi t1 t2 b2 t4 b4 t5 hx hr
    refine w_loop ?_
    have he : (l.map encChg)[i]? = some (encChg q) := get_map hd
    have hil := get_slen hd
    have hn := drop_next hd
    have c1 := C_r7Good c q.2 h (hu q (List.mem_of_mem_drop (by rw [hd]; simp)))
    rw [← put_same t1, ← put_same t2, ← box_same b2, ← put_same t4, ← box_same b4, ← put_same t5]
    unfold encChg encRow encP at he
    unfold encRow encP at c1
    simp only [checkR] at hx hr
    unfold encCat at *
    unfold b112_0 r112_4 r112_5 r112_6 r112_7
    cases g : goodR c q.2 with
    | true =>
      rw [g] at c1 hx hr
      simp only [if_true] at hx hr
      repeat' (first | refine len_sl rfl (List.length_map _) ?_ | refine call2 rfl rfl c1 ?_ | refine w_seq ?_ | refine w_ops ?_ | refine w_opsD0 rfl ?_ | refine st_nil ?_ | refine th_n ?_ | refine bk_n ?_ | refine w_block ?_ | refine w_skip ?_ | refine w_true rfl ?_ | refine w_false rfl ?_ | refine mv_c rfl ?_ | refine lss_t rfl rfl (by omega) ?_ | refine not_ rfl ?_ | refine add_in rfl rfl (by omega) ?_ | refine load_rp rfl (Nat.le_of_ble_eq_true rfl) rfl ?_ | refine load_ptr rfl (by decide) rfl (Nat.le_of_ble_eq_true rfl) rfl ?_ | refine fad_rp rfl (Nat.le_of_ble_eq_true rfl) rfl ?_ | refine iaS_c rfl rfl (by omega) (by assumption) rfl ?_)
      refine ih (i + 1) _ hn (by omega) (by rfl) (by rfl) (by rfl) (by rfl) (by rfl) (by rfl) ?_ ?_
      · rw [Int.natCast_succ]; exact hx
      · rw [Int.natCast_succ]; exact hr
    | false =>
      rw [g] at c1 hr
      simp only [Bool.false_eq_true, if_false] at hr
      repeat' (first | refine len_sl rfl (List.length_map _) ?_ | refine call2 rfl rfl c1 ?_ | refine w_seq ?_ | refine w_ops ?_ | refine w_opsD0 rfl ?_ | refine st_nil ?_ | refine th_n ?_ | refine th_r ?_ | refine bk_r ?_ | refine w_block ?_ | refine w_skip ?_ | refine w_ret ?_ | refine w_true rfl ?_ | refine mv_c rfl ?_ | refine lss_t rfl rfl (by omega) ?_ | refine not_ rfl ?_ | refine build_ rfl rfl ?_ | refine load_rp rfl (Nat.le_of_ble_eq_true rfl) rfl ?_ | refine load_ptr rfl (by decide) rfl (Nat.le_of_ble_eq_true rfl) rfl ?_ | refine store_ptr rfl rfl (by decide) rfl rfl (Nat.le_of_ble_eq_true rfl) rfl ?_ | refine fad_rp rfl (Nat.le_of_ble_eq_true rfl) rfl ?_ | refine iaS_c rfl rfl (by omega) (by assumption) rfl ?_)
      exact hr _ (by rfl) (by rfl)
def chkB (c : CatS) (l : List (Bool × RowS)) : Int × Int := if 40 < l.length then (0, 6) else checkR c 0 l
theorem C_rCheck (c : CatS) (h : okCat c) (l : List (Bool × RowS)) (hlen : l.length ≤ 9223372036854775807) (hu : ∀ x ∈ l, u8P x.2.p) : PCallG Try.prog 112 [.c (.agg (encCat c)), .c (encL7 l)] (.c (toldV (.sl []) (chkB c l))) [] := by
  refine pcallF Try.func112 c112 rfl ?_
  unfold chkB
  unfold p112 r112_0 r112_1 r112_2 r112_3 r112_8
  by_cases b : 40 < l.length
  · rw [if_pos b]
    repeat' (first | refine len_sl rfl (List.length_map _) ?_ | refine w_seq ?_ | refine w_ops ?_ | refine st_nil ?_ | refine th_n ?_ | refine th_r ?_ | refine w_ret ?_ | refine w_true rfl ?_ | refine mv_c rfl ?_ | refine gtr_t rfl rfl (by omega) ?_ | refine alloc_ (fun u => ?_) | refine box_ rfl rfl rfl (fun u => ?_) | refine build_ rfl rfl ?_ | refine store_ptr rfl rfl (by decide) rfl rfl (Nat.le_of_ble_eq_true rfl) rfl ?_)
    exact fin_r (rv_cell rfl rfl rfl rfl rv_nil) rfl
  · rw [if_neg b]
    repeat' (first | refine len_sl rfl (List.length_map _) ?_ | refine w_seq ?_ | refine w_ops ?_ | refine st_nil ?_ | refine th_n ?_ | refine w_block ?_ | refine w_skip ?_ | refine w_false rfl ?_ | refine mv_c rfl ?_ | refine gtr_f rfl rfl (by omega) ?_ | refine alloc_ (fun u => ?_) | refine box_ rfl rfl rfl (fun u => ?_))
    refine chk_loop c h l (by omega) hu _ _ l 0 _ rfl (by omega) (by rfl) (by rfl) (by rfl) (by rfl) (by rfl) (by rfl) (fun g s' t4 b4 => ?_) (fun s' t4 b4 => ?_)
    · rw [show checkR c 0 l = (0, 0) from g, ← put_same t4, ← box_same b4]
      repeat' (first | refine w_seq ?_ | refine w_ops ?_ | refine st_nil ?_ | refine th_n ?_ | refine bk_x ?_ | refine w_ret ?_ | refine build_ rfl rfl ?_ | refine store_ptr rfl rfl (by decide) rfl rfl (Nat.le_of_ble_eq_true rfl) rfl ?_)
      exact fin_r (rv_cell rfl rfl rfl rfl rv_nil) rfl
    · rw [← put_same t4, ← box_same b4]
      repeat' (first | refine th_r ?_ | refine bk_r ?_)
      exact fin_r (rv_cell rfl rfl rfl rfl rv_nil) rfl
end Go.Proofs.Ytcmejdkjfekoeaa
/-
  DELTAS, PLAIN: what comes, what goes. My own work.
-/
namespace Go.Bag
open Go.Pl
/-! ### All runs together, weighed -/
def swt (f : Int → Int) : List Run → Int
  | [] => 0
  | r :: l => f r.1 * r.2 + swt f l
theorem swt_append (f : Int → Int) : ∀ (a b : List Run), swt f (a ++ b) = swt f a + swt f b
  | [], b => by simp [swt]
  | r :: a, b => by simp only [List.cons_append, swt, swt_append f a b]; omega
def negL (l : List Run) : List Run := l.map fun r => (r.1, -r.2)
theorem swt_neg (f : Int → Int) : ∀ (a : List Run), swt f (negL a) = - swt f a
  | [] => by simp [swt, negL]
  | r :: a => by
    have := swt_neg f a
    simp only [negL, List.map_cons, swt, Int.mul_neg] at this ⊢
    omega
theorem cnt_neg : ∀ (a : List Run) (v : Int), cnt (negL a) v = - cnt a v
  | [], v => by simp [cnt, negL]
  | r :: a, v => by
    have := cnt_neg a v
    simp only [negL, List.map_cons, cnt] at this ⊢
    split <;> omega
theorem swt_out (f : Int → Int) (k : Int) : ∀ l : List Run, swt f l = f k * cnt l k + swt f (l.filter fun r => decide (r.1 ≠ k))
  | [] => by simp [swt, cnt]
  | r :: l => by
    have := swt_out f k l
    by_cases e : r.1 = k
    · subst e
      simp only [List.filter_cons, ne_eq, not_true_eq_false, decide_false, Bool.false_eq_true, if_false, swt, cnt, if_true, Int.mul_add] at this ⊢
      omega
    · simp only [List.filter_cons, ne_eq, e, not_false_eq_true, decide_true, if_true, swt, cnt, if_false, Int.zero_add] at this ⊢
      omega
theorem cnt_out (k v : Int) : ∀ l : List Run, cnt (l.filter fun r => decide (r.1 ≠ k)) v = if v = k then 0 else cnt l v
  | [] => by simp [cnt]
  | r :: l => by
    have := cnt_out k v l
    by_cases e : r.1 = k
    · subst e
      simp only [List.filter_cons, ne_eq, not_true_eq_false, decide_false, Bool.false_eq_true, if_false, cnt] at this ⊢
      rw [this]
      by_cases ev : v = r.1
      · simp [ev]
      · simp [ev, Ne.symm ev]
    · simp only [List.filter_cons, ne_eq, e, not_false_eq_true, decide_true, if_true, cnt] at this ⊢
      rw [this]
      by_cases ev : v = k
      · subst ev; simp [e]
      · simp [ev]
theorem swt_zero (f : Int → Int) : ∀ (n : Nat) (l : List Run), l.length ≤ n → (∀ v, cnt l v = 0) → swt f l = 0
  | _, [], _, _ => rfl
  | 0, _ :: _, h, _ => by simp at h
  | n + 1, r :: l, h, hc => by
    rw [swt_out f r.1, hc r.1]
    have hl : ((r :: l).filter fun q => decide (q.1 ≠ r.1)).length ≤ n := by
      have := List.length_filter_le (fun q => decide (q.1 ≠ r.1)) l
      simp only [List.filter_cons, ne_eq, not_true_eq_false, decide_false, Bool.false_eq_true, if_false] at *
      simp only [List.length_cons] at h
      omega
    rw [swt_zero f n _ hl fun v => by rw [cnt_out]; split <;> simp [hc]]
    simp
theorem sum_swt : ∀ l : List Run, sum l = swt (fun _ => 1) l
  | [] => rfl
  | r :: l => by simp only [sum, swt, sum_swt l]; omega
theorem wsum_swt : ∀ l : List Run, wsum l = swt (fun v => v) l
  | [] => rfl
  | r :: l => by simp only [wsum, swt, wsum_swt l]
theorem tot_of {a b c d : List Run} (h : ∀ v, cnt a v + cnt b v = cnt c v + cnt d v) : sum a + sum b = sum c + sum d ∧ wsum a + wsum b = wsum c + wsum d := by
  have key : ∀ f, swt f a + swt f b = swt f c + swt f d := by
    intro f
    have := swt_zero f _ (a ++ b ++ (negL c ++ negL d)) (Nat.le_refl _) fun v => by
      simp only [cnt_append, cnt_neg]; have := h v; omega
    simp only [swt_append, swt_neg] at this
    omega
  simp only [sum_swt, wsum_swt]
  exact ⟨key _, key _⟩
/-! ### What two have in common, what one has more -/
def some_ (v n : Int) : List Run := if 0 < n then [(v, n)] else []
theorem cnt_some (v n u : Int) (h : 0 ≤ n) : cnt (some_ v n) u = if v = u then n else 0 := by
  unfold some_
  by_cases e : 0 < n
  · rw [if_pos e]; simp [cnt]
  · rw [if_neg e]; have : n = 0 := by omega
    subst this; simp [cnt]
def com (b : List Run) : List Run → List Run
  | [] => []
  | r :: l => some_ r.1 (min r.2 (has b r.1)) ++ com b l
def cut (b : List Run) : List Run → List Run
  | [] => []
  | r :: l => some_ r.1 (r.2 - min r.2 (has b r.1)) ++ cut b l
theorem mem_some {v n : Int} {q : Run} (h : q ∈ some_ v n) : q = (v, n) ∧ 0 < n := by
  unfold some_ at h
  split at h
  · rename_i h0; exact ⟨List.mem_singleton.mp h, h0⟩
  · simp at h
theorem asc_some {v n : Int} {l : List Run} (h : asc l) (hv : ∀ q ∈ l, v < q.1) : asc (some_ v n ++ l) := by
  unfold some_
  split
  · exact asc_cons.mpr ⟨hv, h⟩
  · exact h
theorem pos_some {v n : Int} {l : List Run} (h : pos l) : pos (some_ v n ++ l) := by
  intro q hq
  rcases List.mem_append.mp hq with hq | hq
  · obtain ⟨rfl, h0⟩ := mem_some hq; show 1 ≤ n; omega
  · exact h q hq
theorem com_facts {b : List Run} (hb : asc b) (pb : pos b) : ∀ a : List Run, asc a → pos a → asc (com b a) ∧ pos (com b a) ∧ (∀ v, cnt (com b a) v = min (cnt a v) (cnt b v)) ∧ ∀ q ∈ com b a, ∃ r ∈ a, q.1 = r.1 ∧ q.2 ≤ r.2
  | [], _, _ => ⟨by simp [com, asc], fun q hq => by simp [com] at hq, fun v => by simp only [com, cnt]; have := cnt_nonneg v pb; omega, fun q hq => by simp [com] at hq⟩
  | r :: l, ha, pa => by
    obtain ⟨h1, h2⟩ := asc_cons.mp ha
    have pa' : pos l := fun q hq => pa q (by simp [hq])
    obtain ⟨c1, c2, c3, c4⟩ := com_facts hb pb l h2 pa'
    have hr := pa r (by simp)
    have hx := has_cnt r.1 hb
    have hn := cnt_nonneg r.1 pb
    have ea : cnt l r.1 = 0 := cnt_none fun q hq => by have := h1 q hq; omega
    refine ⟨asc_some c1 fun q hq => ?_, pos_some c2, fun v => ?_, fun q hq => ?_⟩
    · obtain ⟨p, hp, e, _⟩ := c4 q hq; rw [e]; exact h1 p hp
    · simp only [com, cnt_append, cnt_some r.1 _ v (show 0 ≤ min r.2 (has b r.1) by omega), c3, cnt]
      by_cases e : r.1 = v
      · subst e; simp only [if_true, ea]; omega
      · simp [e]
    · rcases List.mem_append.mp hq with hq | hq
      · obtain ⟨rfl, _⟩ := mem_some hq; exact ⟨r, by simp, rfl, by show min r.2 (has b r.1) ≤ r.2; omega⟩
      · obtain ⟨p, hp, e⟩ := c4 q hq; exact ⟨p, by simp [hp], e⟩
theorem cut_facts {b : List Run} (hb : asc b) (pb : pos b) : ∀ a : List Run, asc a → pos a → asc (cut b a) ∧ pos (cut b a) ∧ (∀ v, cnt (cut b a) v = cnt a v - min (cnt a v) (cnt b v)) ∧ ∀ q ∈ cut b a, ∃ r ∈ a, q.1 = r.1 ∧ q.2 ≤ r.2
  | [], _, _ => ⟨by simp [cut, asc], fun q hq => by simp [cut] at hq, fun v => by simp only [cut, cnt]; have := cnt_nonneg v pb; omega, fun q hq => by simp [cut] at hq⟩
  | r :: l, ha, pa => by
    obtain ⟨h1, h2⟩ := asc_cons.mp ha
    have pa' : pos l := fun q hq => pa q (by simp [hq])
    obtain ⟨c1, c2, c3, c4⟩ := cut_facts hb pb l h2 pa'
    have hr := pa r (by simp)
    have hx := has_cnt r.1 hb
    have hn := cnt_nonneg r.1 pb
    have ea : cnt l r.1 = 0 := cnt_none fun q hq => by have := h1 q hq; omega
    refine ⟨asc_some c1 fun q hq => ?_, pos_some c2, fun v => ?_, fun q hq => ?_⟩
    · obtain ⟨p, hp, e, _⟩ := c4 q hq; rw [e]; exact h1 p hp
    · simp only [cut, cnt_append, cnt_some r.1 _ v (show 0 ≤ r.2 - min r.2 (has b r.1) by omega), c3, cnt]
      by_cases e : r.1 = v
      · subst e; simp only [if_true, ea]; omega
      · simp [e]
    · rcases List.mem_append.mp hq with hq | hq
      · obtain ⟨rfl, _⟩ := mem_some hq; exact ⟨r, by simp, rfl, by show r.2 - min r.2 (has b r.1) ≤ r.2; omega⟩
      · obtain ⟨p, hp, e⟩ := c4 q hq; exact ⟨p, by simp [hp], e⟩
theorem com_len (b : List Run) : ∀ a : List Run, (com b a).length ≤ a.length
  | [] => by simp [com]
  | r :: l => by
    have := com_len b l
    simp only [com, some_, List.length_append, List.length_cons]
    split <;> simp <;> omega
theorem cut_len (b : List Run) : ∀ a : List Run, (cut b a).length ≤ a.length
  | [] => by simp [cut]
  | r :: l => by
    have := cut_len b l
    simp only [cut, some_, List.length_append, List.length_cons]
    split <;> simp <;> omega
theorem good_com {a b : List Run} (ga : good a = true) (gb : good b = true) : good (com b a) = true ∧ ∀ v, cnt (com b a) v = min (cnt a v) (cnt b v) := by
  obtain ⟨a1, a2, a3⟩ := good_iff.mp ga
  obtain ⟨b1, b2, b3⟩ := good_iff.mp gb
  obtain ⟨c1, c2, c3, _⟩ := com_facts b1 b2 a a1 a2
  obtain ⟨d1, d2, d3, _⟩ := cut_facts b1 b2 a a1 a2
  have := (tot_of (a := com b a) (b := cut b a) (c := a) (d := []) fun v => by rw [c3, d3]; simp only [cnt]; omega).1
  have := sum_nonneg d2
  refine ⟨good_iff.mpr ⟨c1, c2, ?_⟩, c3⟩
  simp only [sum] at *; omega
theorem good_cut {a b : List Run} (ga : good a = true) (gb : good b = true) : good (cut b a) = true ∧ ∀ v, cnt (cut b a) v = cnt a v - min (cnt a v) (cnt b v) := by
  obtain ⟨a1, a2, a3⟩ := good_iff.mp ga
  obtain ⟨b1, b2, b3⟩ := good_iff.mp gb
  obtain ⟨c1, c2, c3, _⟩ := com_facts b1 b2 a a1 a2
  obtain ⟨d1, d2, d3, _⟩ := cut_facts b1 b2 a a1 a2
  have := (tot_of (a := com b a) (b := cut b a) (c := a) (d := []) fun v => by rw [c3, d3]; simp only [cnt]; omega).1
  have := sum_nonneg c2
  refine ⟨good_iff.mpr ⟨d1, d2, ?_⟩, d3⟩
  simp only [sum] at *; omega
theorem ext_good {a b : List Run} (ga : good a = true) (gb : good b = true) (h : ∀ v, cnt a v = cnt b v) : a = b := by
  obtain ⟨a1, a2, _⟩ := good_iff.mp ga
  obtain ⟨b1, b2, _⟩ := good_iff.mp gb
  exact ext a1 b1 a2 b2 h
theorem cnt_good {a : List Run} (ga : good a = true) (v : Int) : 0 ≤ cnt a v := cnt_nonneg v (good_iff.mp ga).2.1
theorem minus_is {a b c : List Run} (ga : good a = true) (gb : good b = true) (gc : good c = true) (h : ∀ v, cnt c v + cnt b v = cnt a v) : minus a b = (c, true) := by
  obtain ⟨o, e, h1, h2, h3⟩ := minus_facts ga gb fun v => by have := h v; have := cnt_good gc v; omega
  obtain ⟨c1, c2, _⟩ := good_iff.mp gc
  rw [e, ext h1 c1 h2 c2 fun v => by rw [h3]; have := h v; omega]
theorem minus_com {a b : List Run} (ga : good a = true) (gb : good b = true) : minus a (com b a) = (cut b a, true) ∧ minus b (com b a) = (cut a b, true) := by
  obtain ⟨c1, c2⟩ := good_com ga gb
  obtain ⟨d1, d2⟩ := good_cut ga gb
  obtain ⟨e1, e2⟩ := good_cut gb ga
  exact ⟨minus_is ga c1 d1 fun v => by rw [c2, d2]; omega, minus_is gb c1 e1 fun v => by rw [c2, e2]; omega⟩
theorem cut_tot {a b : List Run} (ga : good a = true) (gb : good b = true) : sum (cut b a) - sum (cut a b) = sum a - sum b ∧ wsum (cut b a) - wsum (cut a b) = wsum a - wsum b := by
  obtain ⟨d1, d2⟩ := good_cut ga gb
  obtain ⟨e1, e2⟩ := good_cut gb ga
  have := tot_of (a := cut b a) (b := b) (c := a) (d := cut a b) fun v => by rw [d2, e2]; omega
  omega
def apartL (a b : List Run) : Bool := a.all fun r => decide (has b r.1 ≤ 0)
theorem apartL_iff {a b : List Run} (ga : good a = true) (gb : good b = true) : apartL a b = true ↔ ∀ v, cnt a v = 0 ∨ cnt b v = 0 := by
  obtain ⟨a1, a2, _⟩ := good_iff.mp ga
  obtain ⟨b1, b2, _⟩ := good_iff.mp gb
  simp only [apartL, List.all_eq_true, decide_eq_true_eq]
  constructor
  · intro h v
    by_cases hv : cnt a v = 0
    · exact .inl hv
    · obtain ⟨r, hr, rfl⟩ := mem_of_cnt hv
      have := h r hr
      rw [has_cnt _ b1] at this
      have := cnt_nonneg r.1 b2
      exact .inr (by omega)
  · intro h r hr
    rw [has_cnt _ b1]
    have := asc_cnt a1 hr
    have := a2 r hr
    rcases h r.1 with h | h <;> omega
theorem apart_cut {a b : List Run} (ga : good a = true) (gb : good b = true) : apartL (cut b a) (cut a b) = true := by
  obtain ⟨d1, d2⟩ := good_cut ga gb
  obtain ⟨e1, e2⟩ := good_cut gb ga
  rw [apartL_iff d1 e1]
  intro v; rw [d2, e2]; omega
theorem cut_apart {a b : List Run} (ga : good a = true) (gb : good b = true) (h : apartL a b = true) : cut b a = a := by
  obtain ⟨d1, d2⟩ := good_cut ga gb
  rw [apartL_iff ga gb] at h
  refine ext_good d1 ga fun v => ?_
  rw [d2]; have := h v; have := cnt_good ga v; have := cnt_good gb v; omega
theorem apart_symm {a b : List Run} (ga : good a = true) (gb : good b = true) (h : apartL a b = true) : apartL b a = true := by
  rw [apartL_iff ga gb] at h
  rw [apartL_iff gb ga]
  exact fun v => (h v).symm
theorem join_nil {a : List Run} (ga : good a = true) : join a [] = (a, true) := by
  have g0 : good [] = true := by decide
  obtain ⟨a1, a2, a3⟩ := good_iff.mp ga
  obtain ⟨o, h1, h2, h3, h4⟩ := join_ok ga g0 (by simp only [sum]; omega)
  rw [h1, ext_good h2 ga fun v => by rw [h4]; simp [cnt]]
theorem join_comm (a b : List Run) : join a b = join b a := by
  by_cases h : good a = true ∧ good b = true ∧ sum a + sum b ≤ cap
  · obtain ⟨ga, gb, hs⟩ := h
    obtain ⟨o, h1, h2, h3, h4⟩ := join_ok ga gb hs
    obtain ⟨p, k1, k2, k3, k4⟩ := join_ok gb ga (by omega)
    rw [h1, k1, ext_good h2 k2 fun v => by rw [h4, k4]; omega]
  · rw [join_no h, join_no fun k => h ⟨k.2.1, k.1, by omega⟩]
/-! ### A delta -/
structure Delta where
  n : Int
  s0 : Int
  s1 : Int
  i0 : List Run
  i1 : List Run
  o0 : List Run
  o1 : List Run
  deriving DecidableEq
def zeroD : Delta := ⟨0, 0, 0, [], [], [], []⟩
def encD (d : Delta) : List CV := [.int .i64 d.n, .int .i64 d.s0, .int .i64 d.s1, encL d.i0, encL d.i1, encL d.o0, encL d.o1]
def encDelta (d : Delta) : CV := .agg (encD d)
def inB (k : Nat) (b : List Run) : Prop := ranged b ∧ b.length ≤ k
def inD (k : Nat) (d : Delta) : Prop := in64 d.n ∧ in64 d.s0 ∧ in64 d.s1 ∧ inB k d.i0 ∧ inB k d.i1 ∧ inB k d.o0 ∧ inB k d.o1
def mD (n s : Int) (a b : List Run) : Bool := decide (good a = true ∧ good b = true ∧ apartL a b = true ∧ sum a - sum b = n ∧ wsum a - wsum b = s)
def goodD (m : Int) (d : Delta) : Bool := decide ((1 ≤ m ∧ m ≤ 2) ∧ (-1099511627776 ≤ d.n ∧ d.n ≤ 1099511627776) ∧ mD d.n d.s0 d.i0 d.o0 = true ∧ (if m = 2 then mD d.n d.s1 d.i1 d.o1 = true else d.s1 = 0 ∧ d.i1 = [] ∧ d.o1 = []))
theorem mD_iff {n s : Int} {a b : List Run} : mD n s a b = true ↔ good a = true ∧ good b = true ∧ apartL a b = true ∧ sum a - sum b = n ∧ wsum a - wsum b = s := by simp only [mD, decide_eq_true_eq]
theorem goodD_iff {m : Int} {d : Delta} : goodD m d = true ↔ (1 ≤ m ∧ m ≤ 2) ∧ (-1099511627776 ≤ d.n ∧ d.n ≤ 1099511627776) ∧ mD d.n d.s0 d.i0 d.o0 = true ∧ (if m = 2 then mD d.n d.s1 d.i1 d.o1 = true else d.s1 = 0 ∧ d.i1 = [] ∧ d.o1 = []) := by simp only [goodD, decide_eq_true_eq]
def mkD (m n : Int) (i0 i1 o0 o1 : List Run) : Delta × Bool :=
  if in64 (wsum i0 - wsum o0) ∧ (m = 2 → in64 (wsum i1 - wsum o1)) ∧ (-1099511627776 ≤ n ∧ n ≤ 1099511627776) then
    (⟨n, wsum i0 - wsum o0, if m = 2 then wsum i1 - wsum o1 else 0, cut o0 i0, if m = 2 then cut o1 i1 else [], cut i0 o0, if m = 2 then cut i1 o1 else []⟩, true) else (zeroD, false)
def preD (m n : Int) (i0 i1 o0 o1 : List Run) : Prop := (1 ≤ m ∧ m ≤ 2) ∧ (good i0 = true ∧ good o0 = true ∧ sum i0 - sum o0 = n) ∧ (m = 2 → good i1 = true ∧ good o1 = true ∧ sum i1 - sum o1 = n)
theorem mkD_good {m n : Int} {i0 i1 o0 o1 : List Run} (h : preD m n i0 i1 o0 o1) (hk : (mkD m n i0 i1 o0 o1).2 = true) : goodD m (mkD m n i0 i1 o0 o1).1 = true := by
  unfold mkD at hk ⊢
  split at hk
  · rename_i hc
    rw [if_pos hc]
    obtain ⟨hm, ⟨g1, g2, g3⟩, h2⟩ := h
    rw [goodD_iff]
    refine ⟨hm, hc.2.2, ?_, ?_⟩
    · have := cut_tot g1 g2
      exact mD_iff.mpr ⟨(good_cut g1 g2).1, (good_cut g2 g1).1, apart_cut g1 g2, (by show sum (cut o0 i0) - sum (cut i0 o0) = n; omega), (by show wsum (cut o0 i0) - wsum (cut i0 o0) = wsum i0 - wsum o0; omega)⟩
    · split
      · rename_i hm2
        obtain ⟨k1, k2, k3⟩ := h2 hm2
        have := cut_tot k1 k2
        simp only [if_pos hm2]
        exact mD_iff.mpr ⟨(good_cut k1 k2).1, (good_cut k2 k1).1, apart_cut k1 k2, by omega, by omega⟩
      · rename_i hm2
        simp [hm2]
  · cases hk
def joks (m : Int) (a b : Delta) : Prop := (join a.i0 b.i0).2 = true ∧ (join a.o0 b.o0).2 = true ∧ (m = 2 → (join a.i1 b.i1).2 = true ∧ (join a.o1 b.o1).2 = true)
instance (m : Int) (a b : Delta) : Decidable (joks m a b) := by unfold joks; infer_instance
def joinD (m : Int) (a b : Delta) : Delta × Bool :=
  if goodD m a = true ∧ goodD m b = true ∧ joks m a b then mkD m (a.n + b.n) (join a.i0 b.i0).1 (join a.i1 b.i1).1 (join a.o0 b.o0).1 (join a.o1 b.o1).1 else (zeroD, false)
def negD (m : Int) (d : Delta) : Delta × Bool := if goodD m d = true then mkD m (-d.n) d.o0 d.o1 d.i0 d.i1 else (zeroD, false)
def idleD (m : Int) (d : Delta) : Bool := goodD m d && decide (d = zeroD)
def mayC (m : Int) (c : Cell) (is : Bool) : Bool := if is then goodC m c else decide (c = zeroC)
def betweenD (m : Int) (a : Cell) (was : Bool) (b : Cell) (is : Bool) : Delta × Bool :=
  if (1 ≤ m ∧ m ≤ 2) ∧ mayC m a was = true ∧ mayC m b is = true then mkD m (b.n - a.n) b.b0 b.b1 a.b0 a.b1 else (zeroD, false)
def ofD (m : Int) (del : Bool) (r : RowS) : Delta × Bool :=
  if 1 ≤ m ∧ m ≤ 2 then (if del then mkD m (-1) [] [] [(r.m0, 1)] [(r.m1, 1)] else mkD m 1 [(r.m0, 1)] [(r.m1, 1)] [] []) else (zeroD, false)
def swap (b o i : List Run) : List Run × Bool := if (minus b o).2 = true then join (minus b o).1 i else ([], false)
def applyN (m : Int) (c : Cell) (d : Delta) : Cell := ⟨c.n + d.n, c.s0 + d.s0, if m = 2 then c.s1 + d.s1 else 0, (swap c.b0 d.o0 d.i0).1, if m = 2 then (swap c.b1 d.o1 d.i1).1 else []⟩
def applyD (m : Int) (c : Cell) (is : Bool) (d : Delta) : Cell × Bool × Bool :=
  if goodD m d = true ∧ mayC m c is = true ∧ ((swap c.b0 d.o0 d.i0).2 = true ∧ (m = 2 → (swap c.b1 d.o1 d.i1).2 = true)) ∧ (in64 (c.s0 + d.s0) ∧ (m = 2 → in64 (c.s1 + d.s1))) ∧ mayC m (applyN m c d) (decide (c.n + d.n ≠ 0)) = true then
    (applyN m c d, decide (c.n + d.n ≠ 0), true) else (zeroC, false, false)
end Go.Bag
/-
  DELTAS, PLAIN, the second part: joined in any order, turned round, undone. My own work.
-/
namespace Go.Bag
open Go.Pl
theorem ext2 {a b c d : List Run} (ga : good a = true) (gb : good b = true) (gc : good c = true) (gd : good d = true) (hab : apartL a b = true) (hcd : apartL c d = true) (h : ∀ v, cnt a v - cnt b v = cnt c v - cnt d v) : a = c ∧ b = d := by
  rw [apartL_iff ga gb] at hab
  rw [apartL_iff gc gd] at hcd
  have key : ∀ v, cnt a v = cnt c v ∧ cnt b v = cnt d v := by
    intro v
    have h1 := hab v; have h2 := hcd v; have h3 := h v
    have := cnt_good ga v; have := cnt_good gb v; have := cnt_good gc v; have := cnt_good gd v
    omega
  exact ⟨ext_good ga gc fun v => (key v).1, ext_good gb gd fun v => (key v).2⟩
theorem extD {m : Int} {d e : Delta} (hd : goodD m d = true) (he : goodD m e = true) (hn : d.n = e.n) (h0 : ∀ v, cnt d.i0 v - cnt d.o0 v = cnt e.i0 v - cnt e.o0 v) (h1 : m = 2 → ∀ v, cnt d.i1 v - cnt d.o1 v = cnt e.i1 v - cnt e.o1 v) : d = e := by
  obtain ⟨_, _, d1, d2⟩ := goodD_iff.mp hd
  obtain ⟨_, _, e1, e2⟩ := goodD_iff.mp he
  obtain ⟨a1, a2, a3, a4, a5⟩ := mD_iff.mp d1
  obtain ⟨b1, b2, b3, b4, b5⟩ := mD_iff.mp e1
  obtain ⟨x1, x2⟩ := ext2 a1 a2 b1 b2 a3 b3 h0
  obtain ⟨dn, ds0, ds1, di0, di1, do0, do1⟩ := d
  obtain ⟨en, es0, es1, ei0, ei1, eo0, eo1⟩ := e
  simp only at *
  subst x1; subst x2; subst hn
  by_cases hm : m = 2
  · rw [if_pos hm] at d2 e2
    obtain ⟨p1, p2, p3, p4, p5⟩ := mD_iff.mp d2
    obtain ⟨q1, q2, q3, q4, q5⟩ := mD_iff.mp e2
    obtain ⟨y1, y2⟩ := ext2 p1 p2 q1 q2 p3 q3 (h1 hm)
    subst y1; subst y2
    simp only [Delta.mk.injEq, true_and, and_true]
    omega
  · rw [if_neg hm] at d2 e2
    obtain ⟨p1, p2, p3⟩ := d2
    obtain ⟨q1, q2, q3⟩ := e2
    subst p2; subst p3; subst q2; subst q3
    simp only [Delta.mk.injEq, true_and, and_true]
    omega
theorem goodD_zero {m : Int} (hm : 1 ≤ m ∧ m ≤ 2) : goodD m zeroD = true := by
  rw [goodD_iff]
  refine ⟨hm, by decide, by decide, ?_⟩
  split
  · decide
  · exact ⟨rfl, rfl, rfl⟩
theorem mkD_sg {m n : Int} {i0 i1 o0 o1 : List Run} (h : preD m n i0 i1 o0 o1) (hk : (mkD m n i0 i1 o0 o1).2 = true) :
    (mkD m n i0 i1 o0 o1).1.n = n ∧ (∀ v, cnt (mkD m n i0 i1 o0 o1).1.i0 v - cnt (mkD m n i0 i1 o0 o1).1.o0 v = cnt i0 v - cnt o0 v) ∧
    (m = 2 → ∀ v, cnt (mkD m n i0 i1 o0 o1).1.i1 v - cnt (mkD m n i0 i1 o0 o1).1.o1 v = cnt i1 v - cnt o1 v) := by
  unfold mkD at hk ⊢
  split at hk
  · rename_i hc
    rw [if_pos hc]
    obtain ⟨hm, ⟨g1, g2, g3⟩, h2⟩ := h
    refine ⟨rfl, fun v => ?_, fun hm2 v => ?_⟩
    · show cnt (cut o0 i0) v - cnt (cut i0 o0) v = _
      rw [(good_cut g1 g2).2, (good_cut g2 g1).2]; omega
    · obtain ⟨k1, k2, k3⟩ := h2 hm2
      simp only [if_pos hm2]
      rw [(good_cut k1 k2).2, (good_cut k2 k1).2]; omega
  · cases hk
theorem join_is {a b : List Run} (h : (join a b).2 = true) : good a = true ∧ good b = true ∧ sum a + sum b ≤ cap ∧ good (join a b).1 = true ∧ sum (join a b).1 = sum a + sum b ∧ wsum (join a b).1 = wsum a + wsum b ∧ ∀ v, cnt (join a b).1 v = cnt a v + cnt b v := by
  by_cases hc : good a = true ∧ good b = true ∧ sum a + sum b ≤ cap
  · obtain ⟨o, h1, h2, h3, h4⟩ := join_ok hc.1 hc.2.1 hc.2.2
    rw [h1]
    have := tot_of (a := o) (b := []) (c := a) (d := b) fun v => by rw [h4]; simp [cnt]
    simp only [sum, wsum] at this
    exact ⟨hc.1, hc.2.1, hc.2.2, h2, h3, (by show wsum o = wsum a + wsum b; omega), h4⟩
  · rw [join_no hc] at h; cases h
theorem joinD_pre {m : Int} {a b : Delta} (ha : goodD m a = true) (hb : goodD m b = true) (hj : joks m a b) :
    preD m (a.n + b.n) (join a.i0 b.i0).1 (join a.i1 b.i1).1 (join a.o0 b.o0).1 (join a.o1 b.o1).1 := by
  obtain ⟨hm, _, d1, d2⟩ := goodD_iff.mp ha
  obtain ⟨_, _, e1, e2⟩ := goodD_iff.mp hb
  obtain ⟨a1, a2, a3, a4, a5⟩ := mD_iff.mp d1
  obtain ⟨b1, b2, b3, b4, b5⟩ := mD_iff.mp e1
  obtain ⟨j1, j2, j3⟩ := hj
  have k1 := join_is j1
  have k2 := join_is j2
  refine ⟨hm, ⟨k1.2.2.2.1, k2.2.2.2.1, by omega⟩, fun hm2 => ?_⟩
  rw [if_pos hm2] at d2 e2
  obtain ⟨p1, p2, p3, p4, p5⟩ := mD_iff.mp d2
  obtain ⟨q1, q2, q3, q4, q5⟩ := mD_iff.mp e2
  have k3 := join_is (j3 hm2).1
  have k4 := join_is (j3 hm2).2
  exact ⟨k3.2.2.2.1, k4.2.2.2.1, by omega⟩
theorem joinD_is {m : Int} {a b : Delta} (h : (joinD m a b).2 = true) : goodD m a = true ∧ goodD m b = true ∧ goodD m (joinD m a b).1 = true ∧ (joinD m a b).1.n = a.n + b.n ∧
    (∀ v, cnt (joinD m a b).1.i0 v - cnt (joinD m a b).1.o0 v = (cnt a.i0 v - cnt a.o0 v) + (cnt b.i0 v - cnt b.o0 v)) ∧
    (m = 2 → ∀ v, cnt (joinD m a b).1.i1 v - cnt (joinD m a b).1.o1 v = (cnt a.i1 v - cnt a.o1 v) + (cnt b.i1 v - cnt b.o1 v)) := by
  unfold joinD at h ⊢
  split at h
  · rename_i hc
    rw [if_pos hc]
    have hp := joinD_pre hc.1 hc.2.1 hc.2.2
    have hg := mkD_good hp h
    obtain ⟨s1, s2, s3⟩ := mkD_sg hp h
    have k1 := join_is hc.2.2.1
    have k2 := join_is hc.2.2.2.1
    refine ⟨hc.1, hc.2.1, hg, s1, fun v => ?_, fun hm2 v => ?_⟩
    · rw [s2, k1.2.2.2.2.2.2, k2.2.2.2.2.2.2]; omega
    · have k3 := join_is (hc.2.2.2.2 hm2).1
      have k4 := join_is (hc.2.2.2.2 hm2).2
      rw [s3 hm2, k3.2.2.2.2.2.2, k4.2.2.2.2.2.2]; omega
  · cases h
def negX (d : Delta) : Delta := ⟨-d.n, -d.s0, -d.s1, d.o0, d.o1, d.i0, d.i1⟩
theorem negD_is {m : Int} {d : Delta} (h : goodD m d = true) : negD m d = if in64 (-d.s0) ∧ (m = 2 → in64 (-d.s1)) then (negX d, true) else (zeroD, false) := by
  obtain ⟨hm, hn, d1, d2⟩ := goodD_iff.mp h
  obtain ⟨a1, a2, a3, a4, a5⟩ := mD_iff.mp d1
  have e0 : wsum d.o0 - wsum d.i0 = -d.s0 := by omega
  have c0 := cut_apart a1 a2 a3
  have c1 := cut_apart a2 a1 (apart_symm a1 a2 a3)
  unfold negD mkD
  rw [if_pos h, e0, c0, c1]
  by_cases hm2 : m = 2
  · rw [if_pos hm2] at d2
    obtain ⟨p1, p2, p3, p4, p5⟩ := mD_iff.mp d2
    have e1 : wsum d.o1 - wsum d.i1 = -d.s1 := by omega
    rw [e1, cut_apart p1 p2 p3, cut_apart p2 p1 (apart_symm p1 p2 p3)]
    simp only [hm2, if_true, true_implies]
    by_cases hc : in64 (-d.s0) ∧ in64 (-d.s1)
    · rw [if_pos ⟨hc.1, hc.2, by omega, by omega⟩, if_pos hc]; rfl
    · rw [if_neg fun k => hc ⟨k.1, k.2.1⟩, if_neg hc]
  · rw [if_neg hm2] at d2
    simp only [hm2, if_false, false_implies, and_true]
    by_cases hc : in64 (-d.s0)
    · rw [if_pos ⟨hc, trivial, by omega, by omega⟩, if_pos hc]; simp [negX, d2.1, d2.2.1, d2.2.2]
    · rw [if_neg fun k => hc k.1, if_neg hc]
/-! ### A cell, and back -/
theorem minus_of {a b : List Run} (h : (minus a b).2 = true) : good a = true ∧ good b = true ∧ good (minus a b).1 = true ∧ ∀ v, cnt (minus a b).1 v = cnt a v - cnt b v := by
  by_cases hg : good a = true ∧ good b = true
  · by_cases hs : sub b a
    · obtain ⟨o, h1, h2, h3, h4⟩ := minus_facts hg.1 hg.2 hs
      rw [h1]
      refine ⟨hg.1, hg.2, good_iff.mpr ⟨h2, h3, ?_⟩, h4⟩
      have := (tot_of (a := o) (b := b) (c := a) (d := []) fun v => by rw [h4]; simp [cnt]).1
      have := sum_nonneg (good_iff.mp hg.2).2.1
      have := (good_iff.mp hg.1).2.2
      simp only [sum] at *; omega
    · rw [minus_no hs] at h; cases h
  · unfold minus at h; rw [if_neg hg] at h; cases h
theorem mayC_1 {m : Int} {c : Cell} {is : Bool} (h : mayC m c is = true) (hm : m ≠ 2) : c.s1 = 0 ∧ c.b1 = [] := by
  unfold mayC at h
  cases is with
  | true =>
    simp only [if_true] at h
    have := (goodC_iff.mp h).2.2.2
    rw [if_neg hm] at this
    exact this
  | false =>
    simp only [Bool.false_eq_true, if_false, decide_eq_true_eq] at h
    subst h; exact ⟨rfl, rfl⟩
end Go.Bag

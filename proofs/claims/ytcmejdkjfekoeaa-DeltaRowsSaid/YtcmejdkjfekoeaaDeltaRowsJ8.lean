/- Part of the proof of DeltaRows: lemmas. -/
import Derived.Test.YtcmejdkjfekoeaaDeltaRowsJ6
import Derived.Test.YtcmejdkjfekoeaaDeltaRowsJ7
set_option linter.unusedVariables false
set_option linter.unusedSimpArgs false
namespace Go.Proofs.Ytcmejdkjfekoeaa
open Go.Pl Go.Bag
set_option maxHeartbeats 16000000
set_option maxRecDepth 100000
def toldR (t : List RowS × Int × Int) : CV := .agg [encRows t.1, .int .i64 t.2.1, .int .i64 t.2.2]
theorem fold_loop {K : Ex → PS → Prop} (c : CatS) (h : okCat c) (l : List (Bool × RowS)) (hlen : l.length ≤ 40) (hq : ∀ q ∈ l, rowIn q.2) (v6 : Nat) : ∀ (rest : List (Bool × RowS)) (i v27 : Nat) (L : List RowS) (s : PS), l.drop i = rest → i ≤ l.length → L.length ≤ 1000 + i → (∀ x ∈ L, rowIn x) →
    s.t 2 = .c (encL7 l) → s.t 6 = .ptr 6 v6 0 → s.bx 6 = ⟨v6, .var [.sl [], .int .i64 0, .int .i64 0]⟩ → s.t 8 = .ptr 27 v27 0 → s.bx 27 = ⟨v27, .var (encBase c L)⟩ → s.t 9 = .c (.int .i64 i) →
    ((fold2 c L i rest).2 = (0, 0) → ∀ s' : PS, s'.t 6 = .ptr 6 v6 0 → s'.bx 6 = ⟨v6, .var [.sl [], .int .i64 0, .int .i64 0]⟩ → s'.t 8 = .ptr 27 v27 0 → s'.bx 27 = ⟨v27, .var (encBase c (fold2 c L i rest).1)⟩ → K (.x 0) s') →
    ((fold2 c L i rest).2.2 ≠ 0 → (fold2 c L i rest).1 = [] → ∀ s' : PS, s'.t 6 = .ptr 6 v6 0 → s'.bx 6 = ⟨v6, .var [.sl [], .int .i64 (fold2 c L i rest).2.1, .int .i64 (fold2 c L i rest).2.2]⟩ → K .r s') → wP (PCallG Try.prog) (.loop b79_0) s K := by
  intro rest
  induction rest with
  | nil =>
    intro i v27 L s hd hi hL hu t2 t6 b6 t8 b8 t9 hx hr
    refine w_loop ?_
    have := drop_end hd hi
    subst this
    rw [← put_same t2, ← put_same t6, ← box_same b6, ← put_same t8, ← box_same b8, ← put_same t9]
    unfold b79_0 r79_8 r79_9 r79_10 r79_11 r79_12
    repeat' (first | refine len_sl rfl (List.length_map _) ?_ | refine w_seq ?_ | refine w_ops ?_ | refine st_nil ?_ | refine th_n ?_ | refine th_x ?_ | refine w_exit ?_ | refine w_false rfl ?_ | refine mv_c rfl ?_ | refine lss_f rfl rfl (by omega) ?_)
    exact hx rfl _ (by rfl) (by rfl) (by rfl) (by rfl)
  | cons q rest ih =>
    intro i v27 L s hd hi hL hu t2 t6 b6 t8 b8 t9 hx hr
    refine w_loop ?_
    have he : (l.map encChg)[i]? = some (encChg q) := get_map hd
    have hil := get_slen hd
    have hn := drop_next hd
    have hqi := hq q (List.mem_of_mem_drop (by rw [hd]; simp))
    have c1 := C_do c h L (by omega) (fun x hx => (hu x hx).1) (fun x hx => (hu x hx).2) q.1 q.2 hqi.1 hqi.2
    have hu2 : ∀ x ∈ (do2 c L q.1 q.2).1, rowIn x := fun x hx => by
      rcases do2_mem hx with rfl | hx
      · exact hqi
      · exact hu x hx
    have hl2 := @do2_len c L q.1 q.2
    simp only [fold2] at hx hr
    generalize do2 c L q.1 q.2 = w at *
    obtain ⟨L2, e⟩ := w
    simp only at c1 hu2 hl2 hx hr
    rw [← put_same t2, ← put_same t6, ← box_same b6, ← put_same t8, ← box_same b8, ← put_same t9]
    unfold encChg encRow encP at he
    unfold encChg encRow encP at c1
    unfold b79_0 r79_8 r79_9 r79_10 r79_11 r79_12
    by_cases e0 : e = 0
    · subst e0
      simp only [if_true] at hx hr
      repeat' (first | refine len_sl rfl (List.length_map _) ?_ | refine callI1 rfl rfl rfl c1 ?_ | refine w_seq ?_ | refine w_ops ?_ | refine st_nil ?_ | refine th_n ?_ | refine bk_n ?_ | refine w_block ?_ | refine w_skip ?_ | refine w_true rfl ?_ | refine w_false rfl ?_ | refine mv_c rfl ?_ | refine mv_ptr rfl ?_ | refine lss_t rfl rfl (by omega) ?_ | refine neq_f rfl rfl (by omega) ?_ | refine add_in rfl rfl (by omega) ?_ | refine load_rp rfl (Nat.le_of_ble_eq_true rfl) rfl ?_ | refine iaS_c rfl rfl (by omega) (by assumption) rfl ?_)
      refine ih (i + 1) v27 L2 _ hn (by omega) (by omega) hu2 (by rfl) (by rfl) (by rfl) (by rfl) (by rfl) (by rfl) ?_ ?_
      · rw [Int.natCast_succ]; exact hx
      · rw [Int.natCast_succ]; exact hr
    · rw [if_neg e0] at hr
      repeat' (first | refine len_sl rfl (List.length_map _) ?_ | refine callI1 rfl rfl rfl c1 ?_ | refine w_seq ?_ | refine w_ops ?_ | refine st_nil ?_ | refine th_n ?_ | refine th_r ?_ | refine bk_r ?_ | refine w_block ?_ | refine w_skip ?_ | refine w_ret ?_ | refine w_true rfl ?_ | refine mv_c rfl ?_ | refine mv_ptr rfl ?_ | refine lss_t rfl rfl (by omega) ?_ | refine neq_t rfl rfl (by omega) ?_ | refine build_ rfl rfl ?_ | refine load_rp rfl (Nat.le_of_ble_eq_true rfl) rfl ?_ | refine store_ptr rfl rfl (by decide) rfl rfl (Nat.le_of_ble_eq_true rfl) rfl ?_ | refine iaS_c rfl rfl (by omega) (by assumption) rfl ?_)
      exact hr e0 rfl _ (by rfl) (by rfl)
theorem C_rFold (c : CatS) (h : okCat c) (rows : List RowS) (l : List (Bool × RowS)) (hr : ∀ r ∈ rows, rowIn r) (hrl : rows.length ≤ 1000) (hq : ∀ q ∈ l, rowIn q.2) (hll : l.length ≤ 9223372036854775807) :
    PCallG Try.prog 79 [.c (.agg (encCat c)), .c (encRows rows), .c (encL7 l)] (.c (toldR (foldT c rows (chkB c l) l))) [] := by
  have c1 := C_rRows c h rows (by omega) (fun x hx => (hr x hx).1) (fun x hx => (hr x hx).2)
  have c2 := C_rCheck c h l hll (fun q hx => (hq q hx).1)
  have c3 := C_rSort rows (by omega) (fun x hx => (hr x hx).1)
  have hsl : (sortR rows).length ≤ 1000 := by rw [(sortR_perm rows).length_eq]; exact hrl
  have hsr : ∀ x ∈ sortR rows, rowIn x := fun x hx => hr x ((sortR_perm rows).mem_iff.mp hx)
  have hck : (chkB c l).2 = 0 → l.length ≤ 40 := fun hz => by
    unfold chkB at hz
    split at hz
    · simp at hz
    · omega
  refine pcallF Try.func79 c79 rfl ?_
  unfold foldT
  generalize rowsOk c rows = g at *
  generalize chkB c l = k at *
  generalize sortR rows = L at *
  obtain ⟨at_, e⟩ := k
  unfold toldV at c2
  simp only at c2 hck ⊢
  show wP _ _ (initPS [.c (.agg [.sl (c.dims.map encDim), .int .i64 c.m]), .c (encRows rows), .c (encL7 l)]) _
  unfold encCat at c1 c2
  unfold p79 r79_0 r79_1 r79_2 r79_3 r79_4 r79_5 r79_6 r79_7 r79_13
  cases g with
  | false =>
    rw [if_pos rfl]
    repeat' (first | refine call2 rfl rfl c1 ?_ | refine w_seq ?_ | refine w_ops ?_ | refine st_nil ?_ | refine th_n ?_ | refine th_r ?_ | refine w_ret ?_ | refine w_true rfl ?_ | refine mv_c rfl ?_ | refine not_ rfl ?_ | refine alloc_ (fun u => ?_) | refine box_ rfl rfl rfl (fun u => ?_) | refine build_ rfl rfl ?_ | refine load_ptr rfl (by decide) rfl (Nat.le_of_ble_eq_true rfl) rfl ?_ | refine store_ptr rfl rfl (by decide) rfl rfl (Nat.le_of_ble_eq_true rfl) rfl ?_)
    exact fin_r (rv_cell rfl rfl rfl rfl rv_nil) rfl
  | true =>
    rw [if_neg (by simp)]
    by_cases e0 : e = 0
    · subst e0
      rw [if_neg (by simp)]
      have hl := hck rfl
      repeat' (first | refine call2 rfl rfl c1 ?_ | refine call2 rfl rfl c2 ?_ | refine call1 rfl c3 ?_ | refine w_seq ?_ | refine w_ops ?_ | refine w_opsD1 rfl (fun u => ?_) | refine st_nil ?_ | refine th_n ?_ | refine w_block ?_ | refine w_skip ?_ | refine w_false rfl ?_ | refine mv_c rfl ?_ | refine mv_ptr rfl ?_ | refine neq_f rfl rfl (by omega) ?_ | refine not_ rfl ?_ | refine alloc_ (fun u => ?_) | refine box_ rfl rfl rfl (fun u => ?_) | refine build_ rfl rfl ?_ | refine load_ptr rfl (by decide) rfl (Nat.le_of_ble_eq_true rfl) rfl ?_ | refine store_ptr rfl rfl (by decide) rfl rfl (Nat.le_of_ble_eq_true rfl) rfl ?_ | refine fad_ptr rfl rfl rfl ?_)
      refine fold_loop c h l hl hq _ l 0 _ L _ rfl (by omega) (by omega) hsr (by rfl) (by rfl) (by rfl) (by rfl) (by rfl) (by rfl) (fun hz s' t6 b6 t8 b8 => ?_) (fun hz hz1 s' t6 b6 => ?_)
      · have hz : (fold2 c L 0 l).2 = (0, 0) := hz
        have b8 : s'.bx 27 = ⟨_, .var (encBase c (fold2 c L 0 l).1)⟩ := b8
        generalize fold2 c L 0 l = f at *
        obtain ⟨L2, a2, e2⟩ := f
        simp only [Prod.mk.injEq] at hz
        obtain ⟨rfl, rfl⟩ := hz
        unfold encBase at b8
        rw [← put_same t6, ← box_same b6, ← put_same t8, ← box_same b8]
        repeat' (first | refine w_seq ?_ | refine w_ops ?_ | refine st_nil ?_ | refine th_n ?_ | refine bk_x ?_ | refine w_ret ?_ | refine mv_ptr rfl ?_ | refine build_ rfl rfl ?_ | refine load_ptr rfl (by decide) rfl (Nat.le_of_ble_eq_true rfl) rfl ?_ | refine store_ptr rfl rfl (by decide) rfl rfl (Nat.le_of_ble_eq_true rfl) rfl ?_ | refine fad_ptr rfl rfl rfl ?_ | refine nilc_ptr rfl rfl ?_)
        exact fin_r (rv_cell rfl rfl rfl rfl rv_nil) rfl
      · have hz1 : (fold2 c L 0 l).1 = [] := hz1
        have b6 : s'.bx 6 = ⟨_, .var [.sl [], .int .i64 (fold2 c L 0 l).2.1, .int .i64 (fold2 c L 0 l).2.2]⟩ := b6
        generalize fold2 c L 0 l = f at *
        obtain ⟨L2, a2, e2⟩ := f
        simp only at hz1 b6
        subst hz1
        rw [← put_same t6, ← box_same b6]
        repeat' (first | refine th_r ?_ | refine bk_r ?_)
        exact fin_r (rv_cell rfl rfl rfl rfl rv_nil) rfl
    · rw [if_pos e0]
      repeat' (first | refine call2 rfl rfl c1 ?_ | refine call2 rfl rfl c2 ?_ | refine w_seq ?_ | refine w_ops ?_ | refine st_nil ?_ | refine th_n ?_ | refine th_r ?_ | refine w_skip ?_ | refine w_ret ?_ | refine w_true rfl ?_ | refine w_false rfl ?_ | refine mv_c rfl ?_ | refine neq_t rfl rfl (by omega) ?_ | refine not_ rfl ?_ | refine alloc_ (fun u => ?_) | refine box_ rfl rfl rfl (fun u => ?_) | refine load_ptr rfl (by decide) rfl (Nat.le_of_ble_eq_true rfl) rfl ?_ | refine store_ptr rfl rfl (by decide) rfl rfl (Nat.le_of_ble_eq_true rfl) rfl ?_ | refine fad_ptr rfl rfl rfl ?_)
      exact fin_r (rv_cell rfl rfl rfl rfl rv_nil) rfl
theorem dr_loop {K : Ex → PS → Prop} (c : CatS) (A : List RowS) (hm : 1 ≤ c.m ∧ c.m ≤ 2) (fA : fine A) (hA : A.length ≤ 40) (l : List (Bool × RowS)) (hlen : l.length ≤ 40) (hq : ∀ q ∈ l, rowIn q.2) (v7 : Nat) (x7 : List CV) (F : List RowS) : ∀ (rest : List (Bool × RowS)) (i v9 : Nat) (L : List RowS) (d : Delta) (s : PS), l.drop i = rest → i ≤ l.length → L.length ≤ 40 + i → (∀ x ∈ L, rowIn x) → fine L → Parts c.m A L d → inD i d → fold2 c L i rest = (F, 0, 0) →
    s.t 1 = .c (encRows A) → s.t 2 = .c (encL7 l) → s.t 7 = .ptr 7 v7 0 → s.bx 7 = ⟨v7, .var x7⟩ → s.t 8 = .c (.int .i64 c.m) → s.t 9 = .ptr 9 v9 0 → s.bx 9 = ⟨v9, .var (encD d)⟩ → s.t 10 = .c (.int .i64 i) →
    (∀ (d' : Delta) (s' : PS), F.length ≤ 80 → (∀ x ∈ F, rowIn x) → fine F → Parts c.m A F d' → inD 40 d' → s'.t 1 = .c (encRows A) → s'.t 7 = .ptr 7 v7 0 → s'.bx 7 = ⟨v7, .var x7⟩ → s'.t 8 = .c (.int .i64 c.m) → s'.t 9 = .ptr 9 v9 0 → s'.bx 9 = ⟨v9, .var (encD d')⟩ → K (.x 0) s') → wP (PCallG Try.prog) (.loop b17_0) s K := by
  intro rest
  induction rest with
  | nil =>
    intro i v9 L d s hd hi hL hu fL hP iD hf t1 t2 t7 b7 t8 t9 b9 t10 hx
    refine w_loop ?_
    have := drop_end hd hi
    subst this
    simp only [fold2, Prod.mk.injEq, and_true] at hf
    subst hf
    rw [← put_same t1, ← put_same t2, ← put_same t7, ← box_same b7, ← put_same t8, ← put_same t9, ← box_same b9, ← put_same t10]
    unfold b17_0 r17_9 r17_10 r17_11 r17_12 r17_13 r17_14 r17_15
    repeat' (first | refine len_sl rfl (List.length_map _) ?_ | refine w_seq ?_ | refine w_ops ?_ | refine st_nil ?_ | refine th_n ?_ | refine th_x ?_ | refine w_exit ?_ | refine w_false rfl ?_ | refine mv_c rfl ?_ | refine lss_f rfl rfl (by omega) ?_)
    exact hx d _ (by omega) hu fL hP (inD_to iD hlen) (by rfl) (by rfl) (by rfl) (by rfl) (by rfl) (by rfl)
  | cons q rest ih =>
    intro i v9 L d s hd hi hL hu fL hP iD hf t1 t2 t7 b7 t8 t9 b9 t10 hx
    refine w_loop ?_
    have he : (l.map encChg)[i]? = some (encChg q) := get_map hd
    have hil := get_slen hd
    have hn := drop_next hd
    have hqi := hq q (List.mem_of_mem_drop (by rw [hd]; simp))
    have hl2 := @do2_len c L q.1 q.2
    have hu2 : ∀ x ∈ (do2 c L q.1 q.2).1, rowIn x := fun x hx => by
      rcases do2_mem hx with rfl | hx
      · exact hqi
      · exact hu x hx
    simp only [fold2] at hf
    have hz : (do2 c L q.1 q.2).2 = 0 := by
      by_cases hz : (do2 c L q.1 q.2).2 = 0
      · exact hz
      · rw [if_neg hz] at hf
        simp only [Prod.mk.injEq] at hf
        exact absurd hf.2.2 hz
    rw [if_pos hz] at hf
    obtain ⟨fL2, hp⟩ := do2_ok fL hz
    obtain ⟨k1, k2, hP2⟩ := parts_step hm (by omega) (by omega) fA fL hP fL2 hp
    have c1 := C_dOf c.m q.1 q.2 hqi.2.1 hqi.2.2
    have i1 : inD 1 (ofD c.m q.1 q.2).1 := inD_of hqi.2.1 hqi.2.2
    have c2 := C_dJoin c.m d (ofD c.m q.1 q.2).1 (inD_to iD (by omega)) (inD_to i1 (by omega))
    have i2 := inD_join (m := c.m) iD i1
    unfold dV at c1 c2
    rw [k1] at c1
    rw [k2] at c2
    generalize (ofD c.m q.1 q.2).1 = o at *
    generalize (joinD c.m d o).1 = d2 at *
    generalize (do2 c L q.1 q.2).1 = L2 at *
    have ih := ih (i + 1)
    rw [← put_same t1, ← put_same t2, ← put_same t7, ← box_same b7, ← put_same t8, ← put_same t9, ← box_same b9, ← put_same t10]
    have he : (l.map encChg)[i]? = some [.bool q.1, .int .u8 q.2.p.p0, .int .u8 q.2.p.p1, .int .u8 q.2.p.p2, .int .u8 q.2.p.p3, .int .i64 q.2.m0, .int .i64 q.2.m1] := he
    unfold encCh encRow encP at c1
    unfold b17_0 r17_9 r17_10 r17_11 r17_12 r17_13 r17_14 r17_15
    repeat' (first | refine len_sl rfl (List.length_map _) ?_ | refine call2 rfl rfl c1 ?_ | refine call3 rfl rfl rfl c2 ?_ | refine w_seq ?_ | refine w_ops ?_ | refine st_nil ?_ | refine th_n ?_ | refine bk_n ?_ | refine w_block ?_ | refine w_skip ?_ | refine w_true rfl ?_ | refine w_false rfl ?_ | refine g_yes rfl ?_ | refine mv_c rfl ?_ | refine pick_f rfl rfl ?_ | refine lss_t rfl rfl (by omega) ?_ | refine not_ rfl ?_ | refine add_in rfl rfl (by omega) ?_ | refine alloc_ (fun u => ?_) | refine load_rp rfl (Nat.le_of_ble_eq_true rfl) rfl ?_ | refine load_ptr rfl (by decide) rfl (Nat.le_of_ble_eq_true rfl) rfl ?_ | refine store_ptr rfl rfl (by decide) rfl rfl (Nat.le_of_ble_eq_true rfl) rfl ?_ | refine iaS_c rfl rfl (by omega) (by assumption) rfl ?_ | refine ext_ rfl rfl ?_)
    refine ih _ L2 d2 _ hn (by omega) (by omega) hu2 fL2 hP2 i2 ?_ (by rfl) (by rfl) (by rfl) (by rfl) (by rfl) (by rfl) (by rfl) (by rfl) hx
    rw [Int.natCast_succ]; exact hf
theorem C_DeltaRows (c : CatS) (h : okCat c) (A : List RowS) (l : List (Bool × RowS)) (hr : ∀ r ∈ A, rowIn r) (hrl : A.length ≤ 9223372036854775807) (hq : ∀ q ∈ l, rowIn q.2) (hll : l.length ≤ 9223372036854775807) :
    PCallG Try.prog 17 [.c (.agg (encCat c)), .c (encRows A), .c (encL7 l)] (.c (.bool true)) [] := by
  have cw := C_wakes10
  have c0 := C_LightCat c h.1 h.2
  refine pcallF Try.func17 c17 rfl ?_
  by_cases h1 : lightCat c = true ∧ A.length ≤ 40 ∧ l.length ≤ 40
  · obtain ⟨l1, l2, l3⟩ := h1
    rw [l1] at c0
    have c1 := C_rFold c h A l hr (by omega) hq hll
    generalize hfo : foldT c A (chkB c l) l = t at c1
    obtain ⟨F, at_, e⟩ := t
    unfold toldR at c1
    simp only at c1
    show wP _ _ (initPS [.c (.agg [.sl (c.dims.map encDim), .int .i64 c.m]), .c (encRows A), .c (encL7 l)]) _
    unfold encCat at c0 c1
    by_cases he : e = 0
    · subst he
      unfold foldT at hfo
      by_cases g : rowsOk c A = false
      · rw [if_pos g] at hfo; simp at hfo
      · rw [if_neg g] at hfo
        by_cases k : (chkB c l).2 = 0
        · rw [if_neg (by simpa using k)] at hfo
          have g : rowsOk c A = true := by simpa using g
          unfold rowsOk at g
          simp only [Bool.and_eq_true] at g
          obtain ⟨_, gc, gm⟩ := g
          have hm : 1 ≤ c.m ∧ c.m ≤ 2 := by
            unfold goodCat at gc
            simp only [Bool.and_eq_true, decide_eq_true_eq] at gc
            exact gc.1.2
          have fA := fine_of gm
          have sp := sortR_perm A
          have hat : at_ = 0 := by
            have key : ∀ (rest : List (Bool × RowS)) (L : List RowS) (i : Int) (F : List RowS) (a : Int), fold2 c L i rest = (F, a, 0) → a = 0 := by
              intro rest
              induction rest with
              | nil => intro L i F a hf; simp only [fold2, Prod.mk.injEq] at hf; exact hf.2.1.symm
              | cons q rest ih =>
                intro L i F a hf
                simp only [fold2] at hf
                split at hf
                · exact ih _ _ _ _ hf
                · rename_i hz; simp only [Prod.mk.injEq] at hf; exact absurd hf.2.2 hz
            exact key _ _ _ _ _ hfo
          subst hat
          -- the parts begin with none
          have hP0 : Parts c.m A (sortR A) zeroD := by
            have z := parts_nil hm A
            have e0 := fun v => num_perm (sp.map (·.m0)) v
            have e1 := fun v => num_perm (sp.map (·.m1)) v
            exact ⟨z.g, by rw [z.n, sp.length_eq], fun v => by rw [z.c0, e0], fun h2 v => by rw [z.c1 h2, e1]⟩
          have hz : ∀ k, inD k zeroD := inD_zero
          unfold p17 r17_0 r17_1 r17_2 r17_3 r17_4 r17_5 r17_6 r17_7 r17_8 r17_16 r17_17 r17_18 r17_19 r17_20
          repeat' (first | refine call1 rfl c0 ?_ | refine call3 rfl rfl rfl c1 ?_ | refine len_sl rfl (List.length_map _) ?_ | refine w_seq ?_ | refine w_ops ?_ | refine st_nil ?_ | refine th_n ?_ | refine w_block ?_ | refine w_skip ?_ | refine w_false rfl ?_ | refine g_yes rfl ?_ | refine mv_c rfl ?_ | refine pick_f rfl rfl ?_ | refine gtr_f rfl rfl (by omega) ?_ | refine neq_f rfl rfl (by omega) ?_ | refine not_ rfl ?_ | refine alloc_ (fun u => ?_) | refine box_ rfl rfl rfl (fun u => ?_) | refine load_ptr rfl (by decide) rfl (Nat.le_of_ble_eq_true rfl) rfl ?_ | refine store_ptr rfl rfl (by decide) rfl rfl (Nat.le_of_ble_eq_true rfl) rfl ?_ | refine fad_ptr rfl rfl rfl ?_)
          refine dr_loop c A hm fA l2 l l3 hq _ _ F l 0 _ (sortR A) zeroD _ rfl (by omega) (by rw [sp.length_eq]; omega) (fun x hx => hr x (sp.mem_iff.mp hx)) (fine_perm sp.symm fA) hP0 (hz 0) hfo (by rfl) (by rfl) (by rfl) (by rfl) (by rfl) (by rfl) (by rfl) (by rfl) ?_
          intro d' s' hF hFu fF hP iD t1 t7 b7 t8 t9 b9
          have a1 := C_cOf c.m A (by omega) (fun r hx => (hr r hx).2)
          have a2 := C_cOf c.m F (by omega) (fun r hx => (hFu r hx).2)
          have iA := inC_ofC (m := c.m) (l := A) (by omega) (fun r hx => (hr r hx).2)
          have iF := inC_ofC (m := c.m) (l := F) (by omega) (fun r hx => (hFu r hx).2)
          have a3 := C_dApply c.m (ofC c.m A).1 (ofC c.m A).2 d' (inC_to iA (by omega)) (inD_to iD (by omega))
          have a4 := C_dBetween c.m (ofC c.m A).1 (ofC c.m F).1 (ofC c.m A).2 (ofC c.m F).2 (inC_to iA (by omega)) (inC_to iF (by omega))
          rw [parts_apply hm (by omega) (by omega) fA fF hP] at a3
          rw [parts_between hm (by omega) (by omega) fA fF hP] at a4
          have lF := iF.2.2.2.2.2
          have a5 := C_cSame (ofC c.m F).1 (ofC c.m F).1 ⟨by omega, by omega⟩ ⟨by omega, by omega⟩
          have a6 := C_dSame d' d' (inD_len iD (by omega)) (inD_len iD (by omega))
          rw [decide_eq_true rfl] at a5 a6
          unfold aV at a3
          unfold dV at a4
          generalize (ofC c.m A).1 = cA at *
          generalize (ofC c.m A).2 = bA at *
          generalize (ofC c.m F).1 = cF at *
          generalize (ofC c.m F).2 = bF at *
          rw [← put_same t1, ← put_same t7, ← box_same b7, ← put_same t8, ← put_same t9, ← box_same b9]
          have eb : ∀ b : Bool, eqC false [LK.b] (.bool b) (.bool b) = some true := fun b => by simp [eqC, shEq]
          repeat' (first | refine call2 rfl rfl a1 ?_ | refine call2 rfl rfl a2 ?_ | refine call4 rfl rfl rfl rfl a3 ?_ | refine call5 rfl rfl rfl rfl rfl a4 ?_ | refine call2 rfl rfl a5 ?_ | refine call2 rfl rfl a6 ?_ | refine call0 cw ?_ | refine eqs_t rfl rfl (eb _) ?_ | refine w_seq ?_ | refine w_ops ?_ | refine st_nil ?_ | refine th_n ?_ | refine bk_x ?_ | refine w_ret ?_ | refine g_yes rfl ?_ | refine mv_c rfl ?_ | refine pick_t rfl rfl ?_ | refine alloc_ (fun u => ?_) | refine load_ptr rfl (by decide) rfl (Nat.le_of_ble_eq_true rfl) rfl ?_ | refine store_ptr rfl rfl (by decide) rfl rfl (Nat.le_of_ble_eq_true rfl) rfl ?_ | refine fad_ptr rfl rfl rfl ?_ | refine ext_ rfl rfl ?_)
          exact fin_r rfl rfl
        · rw [if_pos k] at hfo
          simp only [Prod.mk.injEq] at hfo
          exact absurd hfo.2.2 k
    · unfold p17 r17_0 r17_1 r17_2 r17_3 r17_4 r17_5 r17_6 r17_7 r17_8 r17_16 r17_17 r17_18 r17_19 r17_20
      repeat' (first | refine call1 rfl c0 ?_ | refine call3 rfl rfl rfl c1 ?_ | refine len_sl rfl (List.length_map _) ?_ | refine call0 cw ?_ | refine w_seq ?_ | refine w_ops ?_ | refine st_nil ?_ | refine th_n ?_ | refine th_r ?_ | refine w_skip ?_ | refine w_ret ?_ | refine w_true rfl ?_ | refine w_false rfl ?_ | refine g_yes rfl ?_ | refine mv_c rfl ?_ | refine pick_f rfl rfl ?_ | refine gtr_f rfl rfl (by omega) ?_ | refine neq_t rfl rfl (by omega) ?_ | refine not_ rfl ?_ | refine alloc_ (fun u => ?_) | refine box_ rfl rfl rfl (fun u => ?_) | refine load_ptr rfl (by decide) rfl (Nat.le_of_ble_eq_true rfl) rfl ?_ | refine store_ptr rfl rfl (by decide) rfl rfl (Nat.le_of_ble_eq_true rfl) rfl ?_ | refine fad_ptr rfl rfl rfl ?_)
      exact fin_r rfl rfl
  · unfold encCat at c0 ⊢
    unfold p17 r17_0 r17_1 r17_2 r17_3 r17_4 r17_5 r17_6 r17_7 r17_8 r17_16 r17_17 r17_18 r17_19 r17_20
    cases q : lightCat c with
    | false =>
      rw [q] at c0
      repeat' (first | refine call1 rfl c0 ?_ | refine call0 cw ?_ | refine w_seq ?_ | refine w_ops ?_ | refine st_nil ?_ | refine th_n ?_ | refine th_r ?_ | refine w_ret ?_ | refine w_true rfl ?_ | refine g_no rfl ?_ | refine mv_c rfl ?_ | refine pick_t rfl rfl ?_ | refine not_ rfl ?_ | refine box_ rfl rfl rfl (fun u => ?_) | refine load_ptr rfl (by decide) rfl (Nat.le_of_ble_eq_true rfl) rfl ?_)
      exact fin_r rfl rfl
    | true =>
      rw [q] at c0
      by_cases h2 : A.length ≤ 40
      · have h3 : ¬ l.length ≤ 40 := fun h3 => h1 ⟨q, h2, h3⟩
        repeat' (first | refine call1 rfl c0 ?_ | refine len_sl rfl (List.length_map _) ?_ | refine call0 cw ?_ | refine w_seq ?_ | refine w_ops ?_ | refine st_nil ?_ | refine th_n ?_ | refine th_r ?_ | refine w_ret ?_ | refine w_true rfl ?_ | refine g_yes rfl ?_ | refine mv_c rfl ?_ | refine pick_f rfl rfl ?_ | refine gtr_t rfl rfl (by omega) ?_ | refine gtr_f rfl rfl (by omega) ?_ | refine not_ rfl ?_ | refine box_ rfl rfl rfl (fun u => ?_) | refine load_ptr rfl (by decide) rfl (Nat.le_of_ble_eq_true rfl) rfl ?_)
        exact fin_r rfl rfl
      · repeat' (first | refine call1 rfl c0 ?_ | refine len_sl rfl (List.length_map _) ?_ | refine call0 cw ?_ | refine w_seq ?_ | refine w_ops ?_ | refine st_nil ?_ | refine th_n ?_ | refine th_r ?_ | refine w_ret ?_ | refine w_true rfl ?_ | refine g_yes rfl ?_ | refine g_no rfl ?_ | refine mv_c rfl ?_ | refine pick_t rfl rfl ?_ | refine pick_f rfl rfl ?_ | refine gtr_t rfl rfl (by omega) ?_ | refine not_ rfl ?_ | refine box_ rfl rfl rfl (fun u => ?_) | refine load_ptr rfl (by decide) rfl (Nat.le_of_ble_eq_true rfl) rfl ?_)
        exact fin_r rfl rfl
theorem L_DeltaRows (c0 : List CV) (h0 : OkL [.sl [.sl [.int .i64], .sl [.sl [.int .i64]]], .int .i64] c0) (c1 : CV) (h1 : LF.Ok (.sl [.int .u8, .int .u8, .int .u8, .int .u8, .int .i64, .int .i64]) c1) (c2 : CV) (h2 : LF.Ok (.sl [.bool, .int .u8, .int .u8, .int .u8, .int .u8, .int .i64, .int .i64]) c2) :
    PCallG Try.prog 17 [.c (.agg c0), .c c1, .c c2] (.c (.bool true)) [] := by
  obtain ⟨c, k, rfl, hc, _, hk⟩ := okL_cat h0
  obtain rfl := okL_nil hk
  obtain ⟨A, rfl, hA, hAl⟩ := ok_rows7 h1
  obtain ⟨l, rfl, hl, hll⟩ := ok_chg7 h2
  rw [List.append_nil]
  exact C_DeltaRows c hc A l hA hAl hl hll
end Go.Proofs.Ytcmejdkjfekoeaa

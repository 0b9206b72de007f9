/- Part of the proof of DeltaTells, DeltaApplies, DeltaBack, DeltaJoins, DeltaSpoilt: lemmas. -/
import Derived.Test.YtcmejdkjfekoeaaDeltaS9
import Derived.Test.YtcmejdkjfekoeaaDeltaS10
set_option linter.unusedVariables false
set_option linter.unusedSimpArgs false
namespace Go.Proofs.Ytcmejdkjfekoeaa
open Go.Pl Go.Bag
set_option maxHeartbeats 16000000
set_option maxRecDepth 100000
def rcV (p : Cell × Bool) : CV := .agg [.int .i64 p.1.n, .int .i64 p.1.s0, .int .i64 p.1.s1, encL p.1.b0, encL p.1.b1, .bool p.2]
def madeC (m n : Int) (b0 b1 : List Run) : Cell × Bool :=
  if I64 (wsum b0) ∧ (m = 2 → I64 (wsum b1)) ∧ goodC m ⟨n, wsum b0, if m = 2 then wsum b1 else 0, b0, b1⟩ = true then (⟨n, wsum b0, if m = 2 then wsum b1 else 0, b0, b1⟩, true) else (zeroC, false)
theorem wide_good {b : List Run} (hl : b.length ≤ 999999) (hr : ranged b) (hg : good b = true) : PCallG Try.prog 92 [.c (encL b)] (.c (.agg (enc3 (of3 (wsum b))))) [] ∧ PCallG Try.prog 91 [.c (.agg (enc3 (of3 (wsum b))))] (.c (if I64 (wsum b) then .tup [.int .i64 (wsum b), .bool true] else .tup [.int .i64 0, .bool false])) [] := by
  have h1 := C_rWide b (by omega) hr
  obtain ⟨g1, g2, g3⟩ := good_iff.mp hg
  have h0 : cap = 1099511627776 := rfl
  have h2 := C_rBack _ (wideS_in b (of3 0) (in3_of (by decide)))
  rw [wideS_of b 0 g2 hr (by simp [absI]; omega), Int.zero_add] at h1 h2
  refine ⟨h1, ?_⟩
  rw [back3_of] at h2
  by_cases h : I64 (wsum b)
  · rw [if_pos h] at h2 ⊢; exact h2
  · rw [if_neg h] at h2 ⊢; exact h2
theorem C_made (m n : Int) (b0 b1 : List Run) (hm : 1 ≤ m ∧ m ≤ 2) (hn : I64 n) (hl0 : b0.length ≤ 999999) (hl1 : b1.length ≤ 999999) (hr0 : ranged b0) (hr1 : ranged b1) (g0 : good b0 = true) (g1 : m = 2 → good b1 = true) :
    PCallG Try.prog 93 [.c (.int .i64 m), .c (.int .i64 n), .c (.agg [encL b0, encL b1])] (.c (rcV (madeC m n b0 b1))) [] := by
  obtain ⟨c1, c2⟩ := wide_good hl0 hr0 g0
  refine pcallF Try.func93 c93 rfl ?_
  unfold p93 r93_0 r93_1 r93_2 r93_9 r93_10 r93_11
  repeat' (first | refine w_seq ?_ | refine w_ops ?_ | refine st_nil ?_ | refine th_n ?_ | refine w_block ?_ | refine mv_c rfl ?_ | refine alloc_ (fun u => ?_) | refine box_ rfl rfl rfl (fun u => ?_) | refine build_ rfl rfl ?_ | refine load_ptr rfl (by decide) rfl (Nat.le_of_ble_eq_true rfl) rfl ?_ | refine store_ptr rfl rfl (by decide) rfl rfl (Nat.le_of_ble_eq_true rfl) rfl ?_)
  refine w_loop ?_
  unfold b93_0 r93_3 r93_4 r93_5 r93_6 r93_7 r93_8
  by_cases f0 : I64 (wsum b0)
  · rw [if_pos f0] at c2
    by_cases hm2 : m = 2
    · obtain ⟨c3, c4⟩ := wide_good hl1 hr1 (g1 hm2)
      by_cases f1 : I64 (wsum b1)
      · rw [if_pos f1] at c4
        have c5 := C_rcGood m ⟨n, wsum b0, wsum b1, b0, b1⟩ ⟨hn, f0, f1, hr0, hr1, hl0, hl1⟩
        unfold encCell encC at c5
        have e0 : madeC m n b0 b1 = if goodC m ⟨n, wsum b0, wsum b1, b0, b1⟩ = true then (⟨n, wsum b0, wsum b1, b0, b1⟩, true) else (zeroC, false) := by
          unfold madeC; rw [if_pos hm2]
          by_cases hg : goodC m ⟨n, wsum b0, wsum b1, b0, b1⟩ = true
          · rw [if_pos hg, if_pos ⟨f0, fun _ => f1, hg⟩]
          · rw [if_neg hg, if_neg (fun h => hg h.2.2)]
        rw [e0]
        generalize goodC m ⟨n, wsum b0, wsum b1, b0, b1⟩ = g at c5
        generalize wsum b0 = w0 at *
        generalize wsum b1 = w1 at *
        repeat' (first | refine call1 rfl c1 ?_ | refine call1 rfl c2 ?_ | refine w_seq ?_ | refine w_ops ?_ | refine st_nil ?_ | refine th_n ?_ | refine bk_n ?_ | refine w_block ?_ | refine w_skip ?_ | refine w_true rfl ?_ | refine w_false rfl ?_ | refine mv_c rfl ?_ | refine lss_t rfl rfl (by omega) ?_ | refine not_ rfl ?_ | refine add_in rfl rfl (by omega) ?_ | refine load_ptr rfl (by decide) rfl (Nat.le_of_ble_eq_true rfl) rfl ?_ | refine store_ptr rfl rfl (by decide) rfl rfl (Nat.le_of_ble_eq_true rfl) rfl ?_ | refine fad_ptr rfl rfl rfl ?_ | refine iaA_ptr rfl rfl rfl (by omega) rfl ?_ | refine ext_ rfl rfl ?_)
        refine w_loop ?_
        repeat' (first | refine call1 rfl c3 ?_ | refine call1 rfl c4 ?_ | refine w_seq ?_ | refine w_ops ?_ | refine st_nil ?_ | refine th_n ?_ | refine bk_n ?_ | refine w_block ?_ | refine w_skip ?_ | refine w_true rfl ?_ | refine w_false rfl ?_ | refine mv_c rfl ?_ | refine lss_t rfl rfl (by omega) ?_ | refine not_ rfl ?_ | refine add_in rfl rfl (by omega) ?_ | refine load_ptr rfl (by decide) rfl (Nat.le_of_ble_eq_true rfl) rfl ?_ | refine store_ptr rfl rfl (by decide) rfl rfl (Nat.le_of_ble_eq_true rfl) rfl ?_ | refine fad_ptr rfl rfl rfl ?_ | refine iaA_ptr rfl rfl rfl (by omega) rfl ?_ | refine ext_ rfl rfl ?_)
        refine w_loop ?_
        cases g <;>
        repeat' (first | refine call2 rfl rfl c5 ?_ | refine w_seq ?_ | refine w_ops ?_ | refine st_nil ?_ | refine th_n ?_ | refine th_x ?_ | refine th_r ?_ | refine bk_x ?_ | refine w_skip ?_ | refine w_exit ?_ | refine w_ret ?_ | refine w_true rfl ?_ | refine w_false rfl ?_ | refine mv_c rfl ?_ | refine lss_f rfl rfl (by omega) ?_ | refine not_ rfl ?_ | refine build_ rfl rfl ?_ | refine load_ptr rfl (by decide) rfl (Nat.le_of_ble_eq_true rfl) rfl ?_ | refine store_ptr rfl rfl (by decide) rfl rfl (Nat.le_of_ble_eq_true rfl) rfl ?_)
        all_goals exact fin_r (rv_cell rfl rfl rfl rfl rv_nil) rfl
      · rw [if_neg f1] at c4
        rw [show madeC m n b0 b1 = (zeroC, false) by unfold madeC; rw [if_neg (fun h => f1 (h.2.1 hm2))]]
        repeat' (first | refine call1 rfl c1 ?_ | refine call1 rfl c2 ?_ | refine w_seq ?_ | refine w_ops ?_ | refine st_nil ?_ | refine th_n ?_ | refine bk_n ?_ | refine w_block ?_ | refine w_skip ?_ | refine w_true rfl ?_ | refine w_false rfl ?_ | refine mv_c rfl ?_ | refine lss_t rfl rfl (by omega) ?_ | refine not_ rfl ?_ | refine add_in rfl rfl (by omega) ?_ | refine load_ptr rfl (by decide) rfl (Nat.le_of_ble_eq_true rfl) rfl ?_ | refine store_ptr rfl rfl (by decide) rfl rfl (Nat.le_of_ble_eq_true rfl) rfl ?_ | refine fad_ptr rfl rfl rfl ?_ | refine iaA_ptr rfl rfl rfl (by omega) rfl ?_ | refine ext_ rfl rfl ?_)
        refine w_loop ?_
        repeat' (first | refine call1 rfl c3 ?_ | refine call1 rfl c4 ?_ | refine w_seq ?_ | refine w_ops ?_ | refine st_nil ?_ | refine th_n ?_ | refine th_r ?_ | refine bk_r ?_ | refine w_block ?_ | refine w_skip ?_ | refine w_ret ?_ | refine w_true rfl ?_ | refine mv_c rfl ?_ | refine lss_t rfl rfl (by omega) ?_ | refine not_ rfl ?_ | refine build_ rfl rfl ?_ | refine load_ptr rfl (by decide) rfl (Nat.le_of_ble_eq_true rfl) rfl ?_ | refine store_ptr rfl rfl (by decide) rfl rfl (Nat.le_of_ble_eq_true rfl) rfl ?_ | refine iaA_ptr rfl rfl rfl (by omega) rfl ?_ | refine ext_ rfl rfl ?_)
        exact fin_r (rv_cell rfl rfl rfl rfl rv_nil) rfl
    · have c5 := C_rcGood m ⟨n, wsum b0, 0, b0, b1⟩ ⟨hn, f0, (by show in64 0; decide), hr0, hr1, hl0, hl1⟩
      unfold encCell encC at c5
      have e0 : madeC m n b0 b1 = if goodC m ⟨n, wsum b0, 0, b0, b1⟩ = true then (⟨n, wsum b0, 0, b0, b1⟩, true) else (zeroC, false) := by
        unfold madeC; rw [if_neg hm2]
        by_cases hg : goodC m ⟨n, wsum b0, 0, b0, b1⟩ = true
        · rw [if_pos hg, if_pos ⟨f0, fun h => absurd h hm2, hg⟩]
        · rw [if_neg hg, if_neg (fun h => hg h.2.2)]
      rw [e0]
      generalize goodC m ⟨n, wsum b0, 0, b0, b1⟩ = g at c5
      generalize wsum b0 = w0 at *
      repeat' (first | refine call1 rfl c1 ?_ | refine call1 rfl c2 ?_ | refine w_seq ?_ | refine w_ops ?_ | refine st_nil ?_ | refine th_n ?_ | refine bk_n ?_ | refine w_block ?_ | refine w_skip ?_ | refine w_true rfl ?_ | refine w_false rfl ?_ | refine mv_c rfl ?_ | refine lss_t rfl rfl (by omega) ?_ | refine not_ rfl ?_ | refine add_in rfl rfl (by omega) ?_ | refine load_ptr rfl (by decide) rfl (Nat.le_of_ble_eq_true rfl) rfl ?_ | refine store_ptr rfl rfl (by decide) rfl rfl (Nat.le_of_ble_eq_true rfl) rfl ?_ | refine fad_ptr rfl rfl rfl ?_ | refine iaA_ptr rfl rfl rfl (by omega) rfl ?_ | refine ext_ rfl rfl ?_)
      refine w_loop ?_
      cases g <;>
      repeat' (first | refine call2 rfl rfl c5 ?_ | refine w_seq ?_ | refine w_ops ?_ | refine st_nil ?_ | refine th_n ?_ | refine th_x ?_ | refine th_r ?_ | refine bk_x ?_ | refine w_skip ?_ | refine w_exit ?_ | refine w_ret ?_ | refine w_true rfl ?_ | refine w_false rfl ?_ | refine mv_c rfl ?_ | refine lss_f rfl rfl (by omega) ?_ | refine not_ rfl ?_ | refine build_ rfl rfl ?_ | refine load_ptr rfl (by decide) rfl (Nat.le_of_ble_eq_true rfl) rfl ?_ | refine store_ptr rfl rfl (by decide) rfl rfl (Nat.le_of_ble_eq_true rfl) rfl ?_)
      all_goals exact fin_r (rv_cell rfl rfl rfl rfl rv_nil) rfl
  · rw [if_neg f0] at c2
    rw [show madeC m n b0 b1 = (zeroC, false) by unfold madeC; rw [if_neg (fun h => f0 h.1)]]
    repeat' (first | refine call1 rfl c1 ?_ | refine call1 rfl c2 ?_ | refine w_seq ?_ | refine w_ops ?_ | refine st_nil ?_ | refine th_n ?_ | refine th_r ?_ | refine bk_r ?_ | refine w_block ?_ | refine w_skip ?_ | refine w_ret ?_ | refine w_true rfl ?_ | refine mv_c rfl ?_ | refine lss_t rfl rfl (by omega) ?_ | refine not_ rfl ?_ | refine build_ rfl rfl ?_ | refine load_ptr rfl (by decide) rfl (Nat.le_of_ble_eq_true rfl) rfl ?_ | refine store_ptr rfl rfl (by decide) rfl rfl (Nat.le_of_ble_eq_true rfl) rfl ?_ | refine iaA_ptr rfl rfl rfl (by omega) rfl ?_ | refine ext_ rfl rfl ?_)
    exact fin_r (rv_cell rfl rfl rfl rfl rv_nil) rfl
def two (b : Bool) (x y : CV) : List CV := match b with | false => [x, y] | true => [y, x]
def bi (b : Bool) : Int := if b then 1 else 0
theorem lay_rows {K : Ex → PS → Prop} (l : List RowS) (hlen : l.length ≤ 1000) (b : Bool) (y : CV) (v5 : Nat) (v0 v4 : PV) (x4 : Box) : ∀ (rest : List RowS) (k : Nat) (out : List Run) (s : PS), l.drop k = rest → k ≤ l.length → asc out → pos out → out.length ≤ k → sum out = k →
    s.t 1 = .c (encRows l) → s.t 7 = .c (.int .i64 k) → s.t 6 = .c (.int .i64 (bi b)) → s.t 5 = .ptr 5 v5 0 → s.bx 5 = ⟨v5, .var (two b (encL out) y)⟩ →
    s.t 0 = v0 → s.t 4 = v4 → s.bx 4 = x4 →
    (∀ s', s'.t 1 = .c (encRows l) → s'.t 6 = .c (.int .i64 (bi b)) → s'.t 5 = .ptr 5 v5 0 → s'.bx 5 = ⟨v5, .var (two b (encL (rofS out (rest.map (mv (bi b))))) y)⟩ → s'.t 0 = v0 → s'.t 4 = v4 → s'.bx 4 = x4 → K (.x 2) s') → wP (PCallG Try.prog) (.loop b44_1) s K := by
  intro rest
  induction rest with
  | nil =>
    intro k out s hd hk ha hp hl hs t1 t7 t6 t5 b5 t0 t4 b4 hx
    refine w_loop ?_
    have hk' := drop_end hd hk
    subst hk'
    rw [← put_same t1, ← put_same t7, ← put_same t6, ← put_same t5, ← put_same t0, ← put_same t4, ← box_same b5, ← box_same b4]
    unfold b44_1 r44_8 r44_9 r44_10
    repeat' (first | refine len_sl rfl (List.length_map _) ?_ | refine w_seq ?_ | refine w_ops ?_ | refine st_nil ?_ | refine th_n ?_ | refine th_x ?_ | refine w_exit ?_ | refine w_false rfl ?_ | refine mv_c rfl ?_ | refine lss_f rfl rfl (by omega) ?_)
    exact hx _ rfl rfl rfl rfl rfl rfl rfl
  | cons r rest ih =>
    intro k out s hd hk ha hp hl hs t1 t7 t6 t5 b5 t0 t4 b4 hx
    refine w_loop ?_
    have he := get_row hd
    have hkl := drop_len hd
    have hn := drop_next hd
    cases b with
    | false =>
      simp only [show bi false = 0 from rfl] at t6 hx ih
      have hM := C_Lay out (mv 0 r) 1 (by omega) fun q hq => by have := le_sum hp q hq; omega
      obtain ⟨f1, f2, f3, f4, f5⟩ := lay_facts out (mv 0 r) 1
      obtain ⟨g1, g2⟩ := lay_pos (v := mv 0 r) (n := 1) ha hp (by decide) (by have := cnt_nonneg (mv 0 r) hp; omega)
      rw [← put_same t1, ← put_same t7, ← put_same t6, ← put_same t5, ← put_same t0, ← put_same t4, ← box_same b5, ← box_same b4]
      unfold b44_1 r44_8 r44_9 r44_10
      repeat' (first | refine len_sl rfl (List.length_map _) ?_ | refine call3 rfl rfl rfl hM ?_ | refine w_seq ?_ | refine w_ops ?_ | refine w_opsD0 rfl ?_ | refine st_nil ?_ | refine th_n ?_ | refine bk_n ?_ | refine w_block ?_ | refine w_skip ?_ | refine w_true rfl ?_ | refine mv_c rfl ?_ | refine lss_t rfl rfl (by omega) ?_ | refine add_in rfl rfl (by omega) ?_ | refine load_rp rfl (Nat.le_of_ble_eq_true rfl) rfl ?_ | refine load_ptr rfl (by decide) rfl (Nat.le_of_ble_eq_true rfl) rfl ?_ | refine store_ptr rfl rfl (by decide) rfl rfl (Nat.le_of_ble_eq_true rfl) rfl ?_ | refine fad_rp rfl (Nat.le_of_ble_eq_true rfl) rfl ?_ | refine iaA_ptr rfl rfl rfl (by omega) rfl ?_ | refine iaA_rp rfl rfl (by omega) (Nat.le_of_ble_eq_true rfl) rfl ?_ | refine iaS_c rfl rfl (by omega) (by assumption) rfl ?_)
      exact ih (k + 1) (lay out (mv 0 r) 1) _ hn (by omega) g1 g2 (by omega) (by omega) (by rfl) (by rfl) (by rfl) (by rfl) (by rfl) (by rfl) (by rfl) (by rfl) hx
    | true =>
      simp only [show bi true = 1 from rfl] at t6 hx ih
      have hM := C_Lay out (mv 1 r) 1 (by omega) fun q hq => by have := le_sum hp q hq; omega
      obtain ⟨f1, f2, f3, f4, f5⟩ := lay_facts out (mv 1 r) 1
      obtain ⟨g1, g2⟩ := lay_pos (v := mv 1 r) (n := 1) ha hp (by decide) (by have := cnt_nonneg (mv 1 r) hp; omega)
      rw [← put_same t1, ← put_same t7, ← put_same t6, ← put_same t5, ← put_same t0, ← put_same t4, ← box_same b5, ← box_same b4]
      unfold b44_1 r44_8 r44_9 r44_10
      repeat' (first | refine len_sl rfl (List.length_map _) ?_ | refine call3 rfl rfl rfl hM ?_ | refine w_seq ?_ | refine w_ops ?_ | refine w_opsD0 rfl ?_ | refine st_nil ?_ | refine th_n ?_ | refine bk_n ?_ | refine w_block ?_ | refine w_skip ?_ | refine w_true rfl ?_ | refine mv_c rfl ?_ | refine lss_t rfl rfl (by omega) ?_ | refine add_in rfl rfl (by omega) ?_ | refine load_rp rfl (Nat.le_of_ble_eq_true rfl) rfl ?_ | refine load_ptr rfl (by decide) rfl (Nat.le_of_ble_eq_true rfl) rfl ?_ | refine store_ptr rfl rfl (by decide) rfl rfl (Nat.le_of_ble_eq_true rfl) rfl ?_ | refine fad_rp rfl (Nat.le_of_ble_eq_true rfl) rfl ?_ | refine iaA_ptr rfl rfl rfl (by omega) rfl ?_ | refine iaA_rp rfl rfl (by omega) (Nat.le_of_ble_eq_true rfl) rfl ?_ | refine iaS_c rfl rfl (by omega) (by assumption) rfl ?_)
      exact ih (k + 1) (lay out (mv 1 r) 1) _ hn (by omega) g1 g2 (by omega) (by omega) (by rfl) (by rfl) (by rfl) (by rfl) (by rfl) (by rfl) (by rfl) (by rfl) hx
theorem good_vals {v : List Int} (hl : 1 ≤ v.length ∧ v.length ≤ 1000) : gM (ofL v) (sumI v) v.length = true := by
  obtain ⟨_, _, _, h4, _⟩ := ofL_facts v
  exact gM_iff.mpr ⟨good_ofL (by omega), wsum_ofL v, h4⟩
theorem C_rcOf (m : Int) (l : List RowS) (hlen : l.length ≤ 1000) (hr : ∀ r ∈ l, inR r) : PCallG Try.prog 44 [.c (.int .i64 m), .c (encRows l)] (.c (rcV (ofC m l))) [] := by
  refine pcallF Try.func44 c44 rfl ?_
  have l0 : (l.map (·.m0)).length = l.length := List.length_map _
  have l1 : (l.map (·.m1)).length = l.length := List.length_map _
  have r0 : ∀ a ∈ l.map (·.m0), I64 a := fun a ha => by obtain ⟨r, hr', rfl⟩ := List.mem_map.mp ha; exact (hr r hr').1
  have r1 : ∀ a ∈ l.map (·.m1), I64 a := fun a ha => by obtain ⟨r, hr', rfl⟩ := List.mem_map.mp ha; exact (hr r hr').2
  have k0 := (ofL_facts (l.map (·.m0))).2.2.2.2
  have k1 := (ofL_facts (l.map (·.m1))).2.2.2.2
  have g0 : good (ofL (l.map (·.m0))) = true := good_ofL (by omega)
  have g1 : good (ofL (l.map (·.m1))) = true := good_ofL (by omega)
  unfold p44 r44_0 r44_1 r44_2 r44_3 r44_4 r44_11
  by_cases hm : 1 ≤ m ∧ m ≤ 2
  · cases l with
    | nil =>
      rw [show ofC m [] = (zeroC, false) by simp [ofC]]
      repeat' (first | refine len_sl (es := []) rfl rfl ?_ | refine w_seq ?_ | refine w_ops ?_ | refine st_nil ?_ | refine th_n ?_ | refine th_r ?_ | refine w_ret ?_ | refine w_true rfl ?_ | refine g_yes rfl ?_ | refine mv_c rfl ?_ | refine pick_f rfl rfl ?_ | refine lss_f rfl rfl (by omega) ?_ | refine gtr_f rfl rfl (by omega) ?_ | refine eqd_ rfl rfl ?_ | refine alloc_ (fun u => ?_) | refine build_ rfl rfl ?_ | refine store_ptr rfl rfl (by decide) rfl rfl (Nat.le_of_ble_eq_true rfl) rfl ?_)
      exact fin_r (rv_cell rfl rfl rfl rfl rv_nil) rfl
    | cons r0' l' =>
      generalize hL : r0' :: l' = l at *
      have hne : l ≠ [] := by rw [← hL]; simp
      have hpos : 0 < l.length := by rw [← hL]; simp
      have lenE : (l.map encRow).length = l.length := List.length_map _
      by_cases hm2 : m = 2
      · have cM := C_made m l.length (ofL (l.map (·.m0))) (ofL (l.map (·.m1))) hm (by constructor <;> omega) (by omega) (by omega) (ranged_ofL r0 (by omega)) (ranged_ofL r1 (by omega)) g0 (fun _ => g1)
        have e : madeC m l.length (ofL (l.map (·.m0))) (ofL (l.map (·.m1))) = ofC m l := by
          unfold madeC ofC
          rw [wsum_ofL, wsum_ofL]
          simp only [if_pos hm2]
          have hg : goodC m ⟨l.length, sumI (l.map (·.m0)), sumI (l.map (·.m1)), ofL (l.map (·.m0)), ofL (l.map (·.m1))⟩ = true := by
            refine goodC_iff.mpr ⟨hm, ⟨by simp; omega, by simp; omega⟩, ?_, ?_⟩
            · have := good_vals (v := l.map (·.m0)) (by omega); rw [l0] at this; exact this
            · rw [if_pos hm2]; have := good_vals (v := l.map (·.m1)) (by omega); rw [l1] at this; exact this
          by_cases hf : I64 (sumI (l.map (·.m0))) ∧ I64 (sumI (l.map (·.m1)))
          · rw [if_pos ⟨hf.1, fun _ => hf.2, hg⟩, if_pos ⟨hm, hne, hf.1, fun _ => hf.2⟩]
          · rw [if_neg (fun h => hf ⟨h.1, h.2.1 hm2⟩), if_neg (fun h => hf ⟨h.2.2.1, h.2.2.2 hm2⟩)]
        rw [e] at cM
        generalize ofC m l = q at cM ⊢
        repeat' (first | refine len_sl rfl lenE ?_ | refine w_seq ?_ | refine w_ops ?_ | refine st_nil ?_ | refine th_n ?_ | refine w_block ?_ | refine w_skip ?_ | refine w_false rfl ?_ | refine g_yes rfl ?_ | refine mv_c rfl ?_ | refine pick_f rfl rfl ?_ | refine lss_f rfl rfl (by omega) ?_ | refine gtr_f rfl rfl (by omega) ?_ | refine eql_f rfl rfl (by omega) ?_ | refine alloc_ (fun u => ?_))
        refine w_loop ?_
        unfold b44_0 r44_5 r44_6 r44_7
        repeat' (first | refine w_seq ?_ | refine w_ops ?_ | refine st_nil ?_ | refine th_n ?_ | refine w_block ?_ | refine w_skip ?_ | refine w_true rfl ?_ | refine mv_c rfl ?_ | refine lss_t rfl rfl (by omega) ?_)
        refine lay_rows l hlen false _ _ _ _ _ l 0 [] _ rfl (by omega) (by simp [asc]) (fun q hq => by simp at hq) (by simp) (by simp [sum]) (by rfl) (by rfl) (by rfl) (by rfl) (by rfl) (by rfl) (by rfl) (by rfl) ?_
        intro s' t1 t6 t5 b5 t0 t4 b4
        rw [rofS_ofL, show mv (bi false) = (·.m0) from mv0] at b5
        rw [show bi false = 0 from rfl] at t6
        rw [← put_same t1, ← put_same t6, ← put_same t5, ← put_same t0, ← put_same t4, ← box_same b5, ← box_same b4]
        repeat' (first | refine w_ops ?_ | refine st_nil ?_ | refine th_n ?_ | refine bk_n ?_ | refine bk_x ?_ | refine mv_c rfl ?_ | refine add_in rfl rfl (by omega) ?_)
        refine w_loop ?_
        repeat' (first | refine w_seq ?_ | refine w_ops ?_ | refine st_nil ?_ | refine th_n ?_ | refine w_block ?_ | refine w_skip ?_ | refine w_true rfl ?_ | refine mv_c rfl ?_ | refine lss_t rfl rfl (by omega) ?_)
        refine lay_rows l hlen true _ _ _ _ _ l 0 [] _ rfl (by omega) (by simp [asc]) (fun q hq => by simp at hq) (by simp) (by simp [sum]) (by rfl) (by rfl) (by rfl) (by rfl) (by rfl) (by rfl) (by rfl) (by rfl) ?_
        intro s' t1 t6 t5 b5 t0 t4 b4
        rw [rofS_ofL, show mv (bi true) = (·.m1) from mv1] at b5
        rw [show bi true = 1 from rfl] at t6
        rw [← put_same t1, ← put_same t6, ← put_same t5, ← put_same t0, ← put_same t4, ← box_same b5, ← box_same b4]
        repeat' (first | refine w_ops ?_ | refine st_nil ?_ | refine th_n ?_ | refine bk_n ?_ | refine bk_x ?_ | refine mv_c rfl ?_ | refine add_in rfl rfl (by omega) ?_)
        refine w_loop ?_
        repeat' (first | refine len_sl rfl lenE ?_ | refine call3 rfl rfl rfl cM ?_ | refine w_seq ?_ | refine w_ops ?_ | refine st_nil ?_ | refine th_n ?_ | refine th_x ?_ | refine bk_x ?_ | refine w_exit ?_ | refine w_ret ?_ | refine w_false rfl ?_ | refine mv_c rfl ?_ | refine lss_f rfl rfl (by omega) ?_ | refine load_ptr rfl (by decide) rfl (Nat.le_of_ble_eq_true rfl) rfl ?_ | refine store_ptr rfl rfl (by decide) rfl rfl (Nat.le_of_ble_eq_true rfl) rfl ?_)
        exact fin_r (rv_cell rfl rfl rfl rfl rv_nil) rfl
      · have cM := C_made m l.length (ofL (l.map (·.m0))) [] hm (by constructor <;> omega) (by omega) (by simp) (ranged_ofL r0 (by omega)) (fun q hq => by simp at hq) g0 (fun h => absurd h hm2)
        have e : madeC m l.length (ofL (l.map (·.m0))) [] = ofC m l := by
          unfold madeC ofC
          rw [wsum_ofL]
          simp only [if_neg hm2]
          have hg : goodC m ⟨l.length, sumI (l.map (·.m0)), 0, ofL (l.map (·.m0)), []⟩ = true := by
            refine goodC_iff.mpr ⟨hm, ⟨by simp; omega, by simp; omega⟩, ?_, ?_⟩
            · have := good_vals (v := l.map (·.m0)) (by omega); rw [l0] at this; exact this
            · rw [if_neg hm2]; exact ⟨rfl, rfl⟩
          by_cases hf : I64 (sumI (l.map (·.m0)))
          · rw [if_pos ⟨hf, fun h => absurd h hm2, hg⟩, if_pos ⟨hm, hne, hf, fun h => absurd h hm2⟩]
          · rw [if_neg (fun h => hf h.1), if_neg (fun h => hf h.2.2.1)]
        rw [e] at cM
        generalize ofC m l = q at cM ⊢
        repeat' (first | refine len_sl rfl lenE ?_ | refine w_seq ?_ | refine w_ops ?_ | refine st_nil ?_ | refine th_n ?_ | refine w_block ?_ | refine w_skip ?_ | refine w_false rfl ?_ | refine g_yes rfl ?_ | refine mv_c rfl ?_ | refine pick_f rfl rfl ?_ | refine lss_f rfl rfl (by omega) ?_ | refine gtr_f rfl rfl (by omega) ?_ | refine eql_f rfl rfl (by omega) ?_ | refine alloc_ (fun u => ?_))
        refine w_loop ?_
        unfold b44_0 r44_5 r44_6 r44_7
        repeat' (first | refine w_seq ?_ | refine w_ops ?_ | refine st_nil ?_ | refine th_n ?_ | refine w_block ?_ | refine w_skip ?_ | refine w_true rfl ?_ | refine mv_c rfl ?_ | refine lss_t rfl rfl (by omega) ?_)
        refine lay_rows l hlen false _ _ _ _ _ l 0 [] _ rfl (by omega) (by simp [asc]) (fun q hq => by simp at hq) (by simp) (by simp [sum]) (by rfl) (by rfl) (by rfl) (by rfl) (by rfl) (by rfl) (by rfl) (by rfl) ?_
        intro s' t1 t6 t5 b5 t0 t4 b4
        rw [rofS_ofL, show mv (bi false) = (·.m0) from mv0] at b5
        rw [show bi false = 0 from rfl] at t6
        rw [← put_same t1, ← put_same t6, ← put_same t5, ← put_same t0, ← put_same t4, ← box_same b5, ← box_same b4]
        repeat' (first | refine w_ops ?_ | refine st_nil ?_ | refine th_n ?_ | refine bk_n ?_ | refine bk_x ?_ | refine mv_c rfl ?_ | refine add_in rfl rfl (by omega) ?_)
        refine w_loop ?_
        repeat' (first | refine len_sl rfl lenE ?_ | refine call3 rfl rfl rfl cM ?_ | refine w_seq ?_ | refine w_ops ?_ | refine st_nil ?_ | refine th_n ?_ | refine th_x ?_ | refine bk_x ?_ | refine w_exit ?_ | refine w_ret ?_ | refine w_false rfl ?_ | refine mv_c rfl ?_ | refine lss_f rfl rfl (by omega) ?_ | refine load_ptr rfl (by decide) rfl (Nat.le_of_ble_eq_true rfl) rfl ?_ | refine store_ptr rfl rfl (by decide) rfl rfl (Nat.le_of_ble_eq_true rfl) rfl ?_)
        exact fin_r (rv_cell rfl rfl rfl rfl rv_nil) rfl
  · rw [show ofC m l = (zeroC, false) by unfold ofC; rw [if_neg (fun h => hm h.1)]]
    by_cases h1 : m < 1
    · repeat' (first | refine w_seq ?_ | refine w_ops ?_ | refine st_nil ?_ | refine th_n ?_ | refine th_r ?_ | refine w_ret ?_ | refine w_true rfl ?_ | refine g_no rfl ?_ | refine mv_c rfl ?_ | refine pick_t rfl rfl ?_ | refine lss_t rfl rfl (by omega) ?_ | refine alloc_ (fun u => ?_) | refine build_ rfl rfl ?_ | refine store_ptr rfl rfl (by decide) rfl rfl (Nat.le_of_ble_eq_true rfl) rfl ?_)
      exact fin_r (rv_cell rfl rfl rfl rfl rv_nil) rfl
    · repeat' (first | refine w_seq ?_ | refine w_ops ?_ | refine st_nil ?_ | refine th_n ?_ | refine th_r ?_ | refine w_ret ?_ | refine w_true rfl ?_ | refine g_yes rfl ?_ | refine g_no rfl ?_ | refine mv_c rfl ?_ | refine pick_t rfl rfl ?_ | refine pick_f rfl rfl ?_ | refine lss_f rfl rfl (by omega) ?_ | refine gtr_t rfl rfl (by omega) ?_ | refine alloc_ (fun u => ?_) | refine build_ rfl rfl ?_ | refine store_ptr rfl rfl (by decide) rfl rfl (Nat.le_of_ble_eq_true rfl) rfl ?_)
      exact fin_r (rv_cell rfl rfl rfl rfl rv_nil) rfl
end Go.Proofs.Ytcmejdkjfekoeaa
namespace Go.Proofs.Ytcmejdkjfekoeaa
open Go.Pl Go.Bag
set_option maxHeartbeats 16000000
set_option maxRecDepth 100000
/-! ### the document's deltas -/
theorem C_r1Minus (z : Int) : PCallG Try.prog 131 [.c (.agg (enc3 (of3 z)))] (.c (.agg (enc3 (of3 (-z))))) [] := by
  refine pcallF Try.func131 c131 rfl ?_
  by_cases hz : z = 0
  · subst hz
    show wP _ _ (initPS [.c (.agg [.bool false, .int .u64 0, .int .u64 0])]) _
    unfold p131 r131_0 r131_1 r131_2 r131_3 r131_4
    repeat' (first | refine w_seq ?_ | refine w_ops ?_ | refine st_nil ?_ | refine th_n ?_ | refine th_r ?_ | refine w_ret ?_ | refine w_true rfl ?_ | refine g_yes rfl ?_ | refine mv_c rfl ?_ | refine pick_t rfl rfl ?_ | refine eql_t rfl rfl (by omega) ?_ | refine alloc_ (fun u => ?_) | refine box_ rfl rfl rfl (fun u => ?_) | refine load_ptr rfl (by decide) rfl (Nat.le_of_ble_eq_true rfl) rfl ?_ | refine store_ptr rfl rfl (by decide) rfl rfl (Nat.le_of_ble_eq_true rfl) rfl ?_ | refine fad_ptr rfl rfl rfl ?_)
    exact fin_r (rv_cell rfl rfl rfl rfl rv_nil) rfl
  · have e : of3 (-z) = (!decide (z < 0), absI z / 18446744073709551616, absI z % 18446744073709551616) := by
      have h1 : absI (-z) = absI z := by unfold absI; split <;> split <;> omega
      have h2 : decide (-z < 0) = !decide (z < 0) := by
        by_cases h : z < 0
        · rw [decide_eq_true h, decide_eq_false (by omega)]; rfl
        · rw [decide_eq_false h, decide_eq_true (by omega)]; rfl
      unfold of3; rw [h1, h2]
    rw [e]
    show wP _ _ (initPS [.c (.agg [.bool (decide (z < 0)), .int .u64 (absI z / 18446744073709551616), .int .u64 (absI z % 18446744073709551616)])]) _
    have hnz : ¬ (absI z / 18446744073709551616 = 0 ∧ absI z % 18446744073709551616 = 0) := by
      intro h
      have : absI z = 0 := by omega
      unfold absI at this; split at this <;> omega
    generalize absI z / 18446744073709551616 = h at *
    generalize absI z % 18446744073709551616 = l at *
    generalize decide (z < 0) = n
    unfold p131 r131_0 r131_1 r131_2 r131_3 r131_4
    by_cases hh : h = 0
    · have hl : ¬ l = 0 := fun k => hnz ⟨hh, k⟩
      repeat' (first | refine w_seq ?_ | refine w_ops ?_ | refine st_nil ?_ | refine th_n ?_ | refine w_skip ?_ | refine w_ret ?_ | refine w_false rfl ?_ | refine g_yes rfl ?_ | refine mv_c rfl ?_ | refine pick_t rfl rfl ?_ | refine eql_t rfl rfl (by omega) ?_ | refine eql_f rfl rfl (by omega) ?_ | refine not_ rfl ?_ | refine alloc_ (fun u => ?_) | refine box_ rfl rfl rfl (fun u => ?_) | refine load_ptr rfl (by decide) rfl (Nat.le_of_ble_eq_true rfl) rfl ?_ | refine store_ptr rfl rfl (by decide) rfl rfl (Nat.le_of_ble_eq_true rfl) rfl ?_ | refine fad_ptr rfl rfl rfl ?_)
      exact fin_r (rv_cell rfl rfl rfl rfl rv_nil) rfl
    · repeat' (first | refine w_seq ?_ | refine w_ops ?_ | refine st_nil ?_ | refine th_n ?_ | refine w_skip ?_ | refine w_ret ?_ | refine w_false rfl ?_ | refine g_no rfl ?_ | refine mv_c rfl ?_ | refine pick_f rfl rfl ?_ | refine eql_f rfl rfl (by omega) ?_ | refine not_ rfl ?_ | refine alloc_ (fun u => ?_) | refine box_ rfl rfl rfl (fun u => ?_) | refine load_ptr rfl (by decide) rfl (Nat.le_of_ble_eq_true rfl) rfl ?_ | refine store_ptr rfl rfl (by decide) rfl rfl (Nat.le_of_ble_eq_true rfl) rfl ?_ | refine fad_ptr rfl rfl rfl ?_)
      exact fin_r (rv_cell rfl rfl rfl rfl rv_nil) rfl
theorem absI_le {x B : Int} (h1 : -B ≤ x) (h2 : x ≤ B) : absI x ≤ B := by unfold absI; split <;> omega
theorem C_rdWide (a b : List Run) (ha : a.length ≤ 999999) (hb : b.length ≤ 999999) (ra : ranged a) (rb : ranged b) (ga : good a = true) (gb : good b = true) :
    PCallG Try.prog 105 [.c (encL a), .c (encL b)] (.c (.agg (enc3 (of3 (wsum a - wsum b))))) [] ∧
    PCallG Try.prog 91 [.c (.agg (enc3 (of3 (wsum a - wsum b))))] (.c (if I64 (wsum a - wsum b) then .tup [.int .i64 (wsum a - wsum b), .bool true] else .tup [.int .i64 0, .bool false])) [] := by
  have c1 := (wide_good ha ra ga).1
  have c2 := (wide_good hb rb gb).1
  have c3 := C_r1Minus (wsum b)
  obtain ⟨pa, sa⟩ := good_facts ga
  obtain ⟨pb, sb⟩ := good_facts gb
  have h0 : cap = 1099511627776 := rfl
  rw [h0] at sa sb
  have na := sum_nonneg pa
  have nb := sum_nonneg pb
  have wa := wsum_bound pa ra
  have wb := wsum_bound pb rb
  have ba : absI (wsum a) ≤ 9223372036854775808 * 1099511627776 := absI_le (by omega) (by omega)
  have bb : absI (-wsum b) ≤ 9223372036854775808 * 1099511627776 := absI_le (by omega) (by omega)
  have c4 := C_rPlus (of3 (wsum a)) (of3 (-wsum b))
  rw [plus3_of (by omega), ← Int.sub_eq_add_neg] at c4
  refine ⟨?_, ?_⟩
  · refine pcallF Try.func105 c105 rfl ?_
    unfold p105 r105_0 r105_1
    repeat' (first | refine call1 rfl c1 ?_ | refine call1 rfl c2 ?_ | refine call1 rfl c3 ?_ | refine call2 rfl rfl c4 ?_ | refine w_seq ?_ | refine w_ops ?_ | refine st_nil ?_ | refine th_n ?_ | refine w_ret ?_ | refine mv_c rfl ?_ | refine alloc_ (fun u => ?_) | refine store_ptr rfl rfl (by decide) rfl rfl (Nat.le_of_ble_eq_true rfl) rfl ?_)
    exact fin_r (rv_cell rfl rfl rfl rfl rv_nil) rfl
  · have h2 := C_rBack (of3 (wsum a - wsum b)) (in3_of (by have := absI_le (x := wsum a - wsum b) (B := 9223372036854775808 * 2199023255552) (by omega) (by omega); omega))
    rw [back3_of] at h2
    by_cases h : I64 (wsum a - wsum b)
    · rw [if_pos h] at h2 ⊢; exact h2
    · rw [if_neg h] at h2 ⊢; exact h2
theorem eqW_of (x y : Int) : eqC true [LK.b, LK.i, LK.i] (.agg (enc3 (of3 x))) (.agg (enc3 (of3 y))) = some (decide (x = y)) := by
  have : eqC true [LK.b, LK.i, LK.i] (.agg (enc3 (of3 x))) (.agg (enc3 (of3 y))) = some ((decide (x < 0) == decide (y < 0)) && ((absI x / 18446744073709551616 == absI y / 18446744073709551616) && ((absI x % 18446744073709551616 == absI y % 18446744073709551616) && true))) := by simp [eqC, enc3, of3, shEq]
  rw [this]
  congr 1
  by_cases h : x = y
  · subst h; simp
  · rw [decide_eq_false h]
    simp only [Bool.and_eq_false_iff, beq_eq_false_iff_ne, ne_eq, decide_eq_decide, Bool.and_true]
    by_cases h1 : (x < 0 ↔ y < 0)
    · right
      by_cases h2 : absI x / 18446744073709551616 = absI y / 18446744073709551616
      · right
        intro h3
        have : absI x = absI y := by omega
        unfold absI at this
        split at this <;> split at this <;> omega
      · exact .inl h2
    · exact .inl h1
theorem rap_loop {K : Ex → PS → Prop} (b : List Run) (hb : b.length < 4611686018427387904) (gb : good b = true) (l : List Run) (hlen : l.length < 4611686018427387904) (v0 v3 v5 : PV) (x3 : Box) : ∀ (rest : List Run) (i : Nat) (s : PS), l.drop i = rest → i ≤ l.length →
    s.t 0 = v0 → s.t 3 = v3 → s.t 5 = v5 → s.bx 3 = x3 → s.t 6 = .c (encL l) → s.t 7 = .c (encL b) → s.t 8 = .c (.int .i64 i) →
    (apartL rest b = true → ∀ s', s'.t 0 = v0 → s'.t 3 = v3 → s'.t 5 = v5 → s'.bx 3 = x3 → s'.t 6 = .c (encL l) → s'.t 7 = .c (encL b) → K (.x 2) s') → (apartL rest b = false → ∀ s', s'.t 4 = .c (.bool false) → K .r s') → wP (PCallG Try.prog) (.loop b66_1) s K := by
  intro rest
  induction rest with
  | nil =>
    intro i s hd hi t0 t3 t5 b3 t6 t7 t8 hx hr
    refine w_loop ?_
    have := get_end hd hi
    subst this
    rw [← put_same t6, ← put_same t8]
    unfold b66_1 r66_13 r66_14 r66_15 r66_16
    repeat' (first | refine len_sl rfl (List.length_map _) ?_ | refine w_seq ?_ | refine w_ops ?_ | refine st_nil ?_ | refine th_n ?_ | refine th_x ?_ | refine w_exit ?_ | refine w_false rfl ?_ | refine mv_c rfl ?_ | refine lss_f rfl rfl (by omega) ?_)
    exact hx rfl _ (by first | exact t0 | rfl) (by first | exact t3 | rfl) (by first | exact t5 | rfl) (by first | exact b3 | rfl) (by rfl) (by first | exact t7 | rfl)
  | cons r rest ih =>
    intro i s hd hi t0 t3 t5 b3 t6 t7 t8 hx hr
    refine w_loop ?_
    have he := get_enc hd
    have hl := get_len hd
    have hn := get_next hd
    have hC := C_rHas b r.1 hb
    rw [if_pos gb] at hC
    rw [← put_same t6, ← put_same t7, ← put_same t8]
    unfold b66_1 r66_13 r66_14 r66_15 r66_16
    by_cases h : 0 < has b r.1
    · have e : apartL (r :: rest) b = false := by
        simp only [apartL, List.all_cons, Bool.and_eq_false_iff, decide_eq_false_iff_not]; exact .inl (by omega)
      repeat' (first | refine len_sl rfl (List.length_map _) ?_ | refine call2 rfl rfl hC ?_ | refine w_seq ?_ | refine w_ops ?_ | refine st_nil ?_ | refine th_n ?_ | refine th_r ?_ | refine bk_r ?_ | refine w_block ?_ | refine w_skip ?_ | refine w_ret ?_ | refine w_true rfl ?_ | refine mv_c rfl ?_ | refine lss_t rfl rfl (by omega) ?_ | refine gtr_t rfl rfl (by omega) ?_ | refine load_rp rfl (Nat.le_of_ble_eq_true rfl) rfl ?_ | refine fad_rp rfl (Nat.le_of_ble_eq_true rfl) rfl ?_ | refine iaS_c rfl rfl (by omega) (by assumption) rfl ?_)
      exact hr e _ (by rfl)
    · have e : apartL (r :: rest) b = apartL rest b := by
        simp only [apartL, List.all_cons]; rw [decide_eq_true (by omega), Bool.true_and]
      rw [e] at hx hr
      repeat' (first | refine len_sl rfl (List.length_map _) ?_ | refine call2 rfl rfl hC ?_ | refine w_seq ?_ | refine w_ops ?_ | refine st_nil ?_ | refine th_n ?_ | refine bk_n ?_ | refine w_block ?_ | refine w_skip ?_ | refine w_true rfl ?_ | refine w_false rfl ?_ | refine mv_c rfl ?_ | refine lss_t rfl rfl (by omega) ?_ | refine gtr_f rfl rfl (by omega) ?_ | refine add_in rfl rfl (by omega) ?_ | refine load_rp rfl (Nat.le_of_ble_eq_true rfl) rfl ?_ | refine fad_rp rfl (Nat.le_of_ble_eq_true rfl) rfl ?_ | refine iaS_c rfl rfl (by omega) (by assumption) rfl ?_)
      exact ih (i + 1) _ hn (by omega) (by exact t0) (by exact t3) (by exact t5) (by exact b3) (by rfl) (by rfl) (by rfl) hx hr
theorem C_rdSame (a b : Delta) (ha : lenD a) (hb : lenD b) : PCallG Try.prog 61 [.c (encDelta a), .c (encDelta b)] (.c (.bool (decide (a = b)))) [] := by
  obtain ⟨n, s0, s1, i0, i1, o0, o1⟩ := a
  obtain ⟨k, t0, t1, j0, j1, q0, q1⟩ := b
  obtain ⟨a1, a2, a3, a4⟩ := ha
  obtain ⟨b1, b2, b3, b4⟩ := hb
  simp only at a1 a2 a3 a4 b1 b2 b3 b4
  show PCallG _ 61 [.c (.agg [.int .i64 n, .int .i64 s0, .int .i64 s1, encL i0, encL i1, encL o0, encL o1]), .c (.agg [.int .i64 k, .int .i64 t0, .int .i64 t1, encL j0, encL j1, encL q0, encL q1])] _ _
  refine pcallF Try.func61 c61 rfl ?_
  have c1 := C_rSame i0 j0 (by omega) (by omega)
  have c2 := C_rSame o0 q0 (by omega) (by omega)
  have c3 := C_rSame i1 j1 (by omega) (by omega)
  have c4 := C_rSame o1 q1 (by omega) (by omega)
  have hno : ∀ {p : Prop}, (Delta.mk n s0 s1 i0 i1 o0 o1 = ⟨k, t0, t1, j0, j1, q0, q1⟩ → p) → ¬ p → decide (Delta.mk n s0 s1 i0 i1 o0 o1 = ⟨k, t0, t1, j0, j1, q0, q1⟩) = false := fun h hp => decide_eq_false fun e => hp (h e)
  unfold p61 r61_0 r61_1 r61_6
  repeat' (first | refine w_seq ?_ | refine w_ops ?_ | refine st_nil ?_ | refine th_n ?_ | refine w_block ?_ | refine mv_c rfl ?_ | refine box_ rfl rfl rfl (fun u => ?_))
  refine w_loop ?_
  unfold b61_0 r61_2 r61_3 r61_4 r61_5
  by_cases h1 : s0 = t0
  · by_cases h2 : i0 = j0
    · rw [decide_eq_true h2] at c1
      by_cases h3 : o0 = q0
      · rw [decide_eq_true h3] at c2
        repeat' (first | refine call2 rfl rfl c1 ?_ | refine call2 rfl rfl c2 ?_ | refine w_seq ?_ | refine w_ops ?_ | refine w_opsD0 rfl ?_ | refine st_nil ?_ | refine th_n ?_ | refine bk_n ?_ | refine w_block ?_ | refine w_skip ?_ | refine w_true rfl ?_ | refine w_false rfl ?_ | refine g_yes rfl ?_ | refine mv_c rfl ?_ | refine pick_f rfl rfl ?_ | refine lss_t rfl rfl (by omega) ?_ | refine neq_f rfl rfl (by omega) ?_ | refine not_ rfl ?_ | refine add_in rfl rfl (by omega) ?_ | refine load_ptr rfl (by decide) rfl (Nat.le_of_ble_eq_true rfl) rfl ?_ | refine fad_ptr rfl rfl rfl ?_ | refine iaA_ptr rfl rfl rfl (by omega) rfl ?_)
        refine w_loop ?_
        by_cases h4 : s1 = t1
        · by_cases h5 : i1 = j1
          · rw [decide_eq_true h5] at c3
            by_cases h6 : o1 = q1
            · rw [decide_eq_true h6] at c4
              repeat' (first | refine call2 rfl rfl c3 ?_ | refine call2 rfl rfl c4 ?_ | refine w_seq ?_ | refine w_ops ?_ | refine w_opsD0 rfl ?_ | refine st_nil ?_ | refine th_n ?_ | refine bk_n ?_ | refine w_block ?_ | refine w_skip ?_ | refine w_true rfl ?_ | refine w_false rfl ?_ | refine g_yes rfl ?_ | refine mv_c rfl ?_ | refine pick_f rfl rfl ?_ | refine lss_t rfl rfl (by omega) ?_ | refine neq_f rfl rfl (by omega) ?_ | refine not_ rfl ?_ | refine add_in rfl rfl (by omega) ?_ | refine load_ptr rfl (by decide) rfl (Nat.le_of_ble_eq_true rfl) rfl ?_ | refine fad_ptr rfl rfl rfl ?_ | refine iaA_ptr rfl rfl rfl (by omega) rfl ?_)
              refine w_loop ?_
              by_cases h7 : n = k
              · rw [decide_eq_true (show Delta.mk n s0 s1 i0 i1 o0 o1 = ⟨k, t0, t1, j0, j1, q0, q1⟩ by rw [h1, h2, h3, h4, h5, h6, h7])]
                repeat' (first | refine w_seq ?_ | refine w_ops ?_ | refine st_nil ?_ | refine th_n ?_ | refine th_x ?_ | refine bk_x ?_ | refine w_exit ?_ | refine w_ret ?_ | refine w_false rfl ?_ | refine mv_c rfl ?_ | refine lss_f rfl rfl (by omega) ?_ | refine eql_t rfl rfl (by omega) ?_ | refine load_ptr rfl (by decide) rfl (Nat.le_of_ble_eq_true rfl) rfl ?_ | refine fad_ptr rfl rfl rfl ?_)
                exact fin_r rfl rfl
              · rw [hno (congrArg Delta.n) h7]
                repeat' (first | refine w_seq ?_ | refine w_ops ?_ | refine st_nil ?_ | refine th_n ?_ | refine th_x ?_ | refine bk_x ?_ | refine w_exit ?_ | refine w_ret ?_ | refine w_false rfl ?_ | refine mv_c rfl ?_ | refine lss_f rfl rfl (by omega) ?_ | refine eql_f rfl rfl (by omega) ?_ | refine load_ptr rfl (by decide) rfl (Nat.le_of_ble_eq_true rfl) rfl ?_ | refine fad_ptr rfl rfl rfl ?_)
                exact fin_r rfl rfl
            · rw [decide_eq_false h6] at c4
              rw [hno (congrArg Delta.o1) h6]
              repeat' (first | refine call2 rfl rfl c3 ?_ | refine call2 rfl rfl c4 ?_ | refine w_seq ?_ | refine w_ops ?_ | refine w_opsD0 rfl ?_ | refine st_nil ?_ | refine th_n ?_ | refine th_r ?_ | refine bk_r ?_ | refine w_block ?_ | refine w_skip ?_ | refine w_ret ?_ | refine w_true rfl ?_ | refine g_yes rfl ?_ | refine mv_c rfl ?_ | refine pick_f rfl rfl ?_ | refine lss_t rfl rfl (by omega) ?_ | refine neq_f rfl rfl (by omega) ?_ | refine not_ rfl ?_ | refine load_ptr rfl (by decide) rfl (Nat.le_of_ble_eq_true rfl) rfl ?_ | refine fad_ptr rfl rfl rfl ?_ | refine iaA_ptr rfl rfl rfl (by omega) rfl ?_)
              exact fin_r rfl rfl
          · rw [decide_eq_false h5] at c3
            rw [hno (congrArg Delta.i1) h5]
            repeat' (first | refine call2 rfl rfl c3 ?_ | refine w_seq ?_ | refine w_ops ?_ | refine w_opsD0 rfl ?_ | refine st_nil ?_ | refine th_n ?_ | refine th_r ?_ | refine bk_r ?_ | refine w_block ?_ | refine w_skip ?_ | refine w_ret ?_ | refine w_true rfl ?_ | refine g_yes rfl ?_ | refine g_no rfl ?_ | refine mv_c rfl ?_ | refine pick_t rfl rfl ?_ | refine pick_f rfl rfl ?_ | refine lss_t rfl rfl (by omega) ?_ | refine neq_f rfl rfl (by omega) ?_ | refine not_ rfl ?_ | refine load_ptr rfl (by decide) rfl (Nat.le_of_ble_eq_true rfl) rfl ?_ | refine fad_ptr rfl rfl rfl ?_ | refine iaA_ptr rfl rfl rfl (by omega) rfl ?_)
            exact fin_r rfl rfl
        · rw [hno (congrArg Delta.s1) h4]
          repeat' (first | refine w_seq ?_ | refine w_ops ?_ | refine w_opsD0 rfl ?_ | refine st_nil ?_ | refine th_n ?_ | refine th_r ?_ | refine bk_r ?_ | refine w_block ?_ | refine w_skip ?_ | refine w_ret ?_ | refine w_true rfl ?_ | refine g_no rfl ?_ | refine mv_c rfl ?_ | refine pick_t rfl rfl ?_ | refine lss_t rfl rfl (by omega) ?_ | refine neq_t rfl rfl (by omega) ?_ | refine load_ptr rfl (by decide) rfl (Nat.le_of_ble_eq_true rfl) rfl ?_ | refine fad_ptr rfl rfl rfl ?_ | refine iaA_ptr rfl rfl rfl (by omega) rfl ?_)
          exact fin_r rfl rfl
      · rw [decide_eq_false h3] at c2
        rw [hno (congrArg Delta.o0) h3]
        repeat' (first | refine call2 rfl rfl c1 ?_ | refine call2 rfl rfl c2 ?_ | refine w_seq ?_ | refine w_ops ?_ | refine w_opsD0 rfl ?_ | refine st_nil ?_ | refine th_n ?_ | refine th_r ?_ | refine bk_r ?_ | refine w_block ?_ | refine w_skip ?_ | refine w_ret ?_ | refine w_true rfl ?_ | refine g_yes rfl ?_ | refine mv_c rfl ?_ | refine pick_f rfl rfl ?_ | refine lss_t rfl rfl (by omega) ?_ | refine neq_f rfl rfl (by omega) ?_ | refine not_ rfl ?_ | refine load_ptr rfl (by decide) rfl (Nat.le_of_ble_eq_true rfl) rfl ?_ | refine fad_ptr rfl rfl rfl ?_ | refine iaA_ptr rfl rfl rfl (by omega) rfl ?_)
        exact fin_r rfl rfl
    · rw [decide_eq_false h2] at c1
      rw [hno (congrArg Delta.i0) h2]
      repeat' (first | refine call2 rfl rfl c1 ?_ | refine w_seq ?_ | refine w_ops ?_ | refine w_opsD0 rfl ?_ | refine st_nil ?_ | refine th_n ?_ | refine th_r ?_ | refine bk_r ?_ | refine w_block ?_ | refine w_skip ?_ | refine w_ret ?_ | refine w_true rfl ?_ | refine g_yes rfl ?_ | refine g_no rfl ?_ | refine mv_c rfl ?_ | refine pick_t rfl rfl ?_ | refine pick_f rfl rfl ?_ | refine lss_t rfl rfl (by omega) ?_ | refine neq_f rfl rfl (by omega) ?_ | refine not_ rfl ?_ | refine load_ptr rfl (by decide) rfl (Nat.le_of_ble_eq_true rfl) rfl ?_ | refine fad_ptr rfl rfl rfl ?_ | refine iaA_ptr rfl rfl rfl (by omega) rfl ?_)
      exact fin_r rfl rfl
  · rw [hno (congrArg Delta.s0) h1]
    repeat' (first | refine w_seq ?_ | refine w_ops ?_ | refine w_opsD0 rfl ?_ | refine st_nil ?_ | refine th_n ?_ | refine th_r ?_ | refine bk_r ?_ | refine w_block ?_ | refine w_skip ?_ | refine w_ret ?_ | refine w_true rfl ?_ | refine g_no rfl ?_ | refine mv_c rfl ?_ | refine pick_t rfl rfl ?_ | refine lss_t rfl rfl (by omega) ?_ | refine neq_t rfl rfl (by omega) ?_ | refine load_ptr rfl (by decide) rfl (Nat.le_of_ble_eq_true rfl) rfl ?_ | refine fad_ptr rfl rfl rfl ?_ | refine iaA_ptr rfl rfl rfl (by omega) rfl ?_)
    exact fin_r rfl rfl
end Go.Proofs.Ytcmejdkjfekoeaa
namespace Go.Proofs.Ytcmejdkjfekoeaa
open Go.Pl Go.Bag
set_option maxHeartbeats 32000000
set_option maxRecDepth 100000
theorem C_rdGood (m : Int) (d : Delta) (hd : inD 999999 d) : PCallG Try.prog 66 [.c (.int .i64 m), .c (encDelta d)] (.c (.bool (goodD m d))) [] := by
  obtain ⟨n, s0, s1, i0, i1, o0, o1⟩ := d
  obtain ⟨hn, hs0, hs1, ⟨ri0, li0⟩, ⟨ri1, li1⟩, ⟨ro0, lo0⟩, ⟨ro1, lo1⟩⟩ := hd
  simp only at hn hs0 hs1 ri0 li0 ri1 li1 ro0 lo0 ro1 lo1
  show PCallG _ 66 [.c (.int .i64 m), .c (.agg [.int .i64 n, .int .i64 s0, .int .i64 s1, encL i0, encL i1, encL o0, encL o1])] _ _
  refine pcallF Try.func66 c66 rfl ?_
  have hcap : cap = 1099511627776 := rfl
  have gA := C_rGood i0 (by omega)
  have kA := C_rGood o0 (by omega)
  have nA := C_rCount i0 (by omega)
  have qA := C_rCount o0 (by omega)
  have gB := C_rGood i1 (by omega)
  have kB := C_rGood o1 (by omega)
  have nB := C_rCount i1 (by omega)
  have qB := C_rCount o1 (by omega)
  have hno : ∀ {p : Prop}, (goodD m ⟨n, s0, s1, i0, i1, o0, o1⟩ = true → p) → ¬ p → goodD m ⟨n, s0, s1, i0, i1, o0, o1⟩ = false := fun h hp => by
    cases hg : goodD m ⟨n, s0, s1, i0, i1, o0, o1⟩ with
    | false => rfl
    | true => exact absurd (h hg) hp
  have hA : goodD m ⟨n, s0, s1, i0, i1, o0, o1⟩ = true → mD n s0 i0 o0 = true := fun h => (goodD_iff.mp h).2.2.1
  unfold p66 r66_0 r66_1 r66_2 r66_3 r66_19
  by_cases hm : 1 ≤ m ∧ m ≤ 2
  · by_cases hnn : -1099511627776 ≤ n ∧ n ≤ 1099511627776
    · repeat' (first | refine w_seq ?_ | refine w_ops ?_ | refine st_nil ?_ | refine th_n ?_ | refine w_block ?_ | refine w_skip ?_ | refine w_false rfl ?_ | refine g_yes rfl ?_ | refine mv_c rfl ?_ | refine pick_f rfl rfl ?_ | refine lss_f rfl rfl (by omega) ?_ | refine gtr_f rfl rfl (by omega) ?_ | refine box_ rfl rfl rfl (fun u => ?_) | refine load_ptr rfl (by decide) rfl (Nat.le_of_ble_eq_true rfl) rfl ?_ | refine fad_ptr rfl rfl rfl ?_)
      refine w_loop ?_
      unfold b66_0 r66_4 r66_5 r66_6 r66_7 r66_8 r66_9 r66_10 r66_11 r66_12 r66_17 r66_18
      cases gaA : good i0 with
      | false =>
        rw [gaA] at gA
        rw [hno (fun h => (mD_iff.mp (hA h)).1) (by rw [gaA]; simp)]
        repeat' (first | refine call1 rfl gA ?_ | refine w_seq ?_ | refine w_ops ?_ | refine w_opsD0 rfl ?_ | refine st_nil ?_ | refine th_n ?_ | refine th_r ?_ | refine bk_r ?_ | refine w_block ?_ | refine w_skip ?_ | refine w_ret ?_ | refine w_true rfl ?_ | refine w_false rfl ?_ | refine g_no rfl ?_ | refine mv_c rfl ?_ | refine pick_t rfl rfl ?_ | refine lss_t rfl rfl (by omega) ?_ | refine geq_f rfl rfl (by omega) ?_ | refine not_ rfl ?_ | refine load_ptr rfl (by decide) rfl (Nat.le_of_ble_eq_true rfl) rfl ?_ | refine fad_ptr rfl rfl rfl ?_ | refine iaA_ptr rfl rfl rfl (by omega) rfl ?_)
        exact fin_r rfl rfl
      | true =>
        rw [gaA] at gA
        rw [if_pos gaA] at nA
        cases gbA : good o0 with
        | false =>
          rw [gbA] at kA
          rw [hno (fun h => (mD_iff.mp (hA h)).2.1) (by rw [gbA]; simp)]
          repeat' (first | refine call1 rfl gA ?_ | refine call1 rfl kA ?_ | refine w_seq ?_ | refine w_ops ?_ | refine w_opsD0 rfl ?_ | refine st_nil ?_ | refine th_n ?_ | refine th_r ?_ | refine bk_r ?_ | refine w_block ?_ | refine w_skip ?_ | refine w_ret ?_ | refine w_true rfl ?_ | refine w_false rfl ?_ | refine g_yes rfl ?_ | refine g_no rfl ?_ | refine mv_c rfl ?_ | refine pick_t rfl rfl ?_ | refine pick_f rfl rfl ?_ | refine lss_t rfl rfl (by omega) ?_ | refine geq_f rfl rfl (by omega) ?_ | refine not_ rfl ?_ | refine load_ptr rfl (by decide) rfl (Nat.le_of_ble_eq_true rfl) rfl ?_ | refine fad_ptr rfl rfl rfl ?_ | refine iaA_ptr rfl rfl rfl (by omega) rfl ?_)
          exact fin_r rfl rfl
        | true =>
          rw [gbA] at kA
          rw [if_pos gbA] at qA
          obtain ⟨paA, saA⟩ := good_facts gaA
          obtain ⟨pbA, sbA⟩ := good_facts gbA
          have naA := sum_nonneg paA
          have nbA := sum_nonneg pbA
          rw [hcap] at saA sbA
          by_cases hnA : sum i0 - sum o0 = n
          · have hap := hno (p := apartL i0 o0 = true) (fun h => (mD_iff.mp (hA h)).2.2.1)
            obtain ⟨cwA, _⟩ := C_rdWide i0 o0 (by omega) (by omega) ri0 ro0 gaA gbA
            have coA := C_rOf1 s0 hs0
            rw [← enc3_of] at coA
            have eqA := eqW_of (wsum i0 - wsum o0) s0
            repeat' (first | refine call1 rfl gA ?_ | refine call1 rfl kA ?_ | refine call1 rfl nA ?_ | refine call1 rfl qA ?_ | refine w_seq ?_ | refine w_ops ?_ | refine w_opsD0 rfl ?_ | refine st_nil ?_ | refine th_n ?_ | refine w_block ?_ | refine w_skip ?_ | refine w_true rfl ?_ | refine w_false rfl ?_ | refine g_yes rfl ?_ | refine mv_c rfl ?_ | refine pick_f rfl rfl ?_ | refine lss_t rfl rfl (by omega) ?_ | refine geq_f rfl rfl (by omega) ?_ | refine neq_f rfl rfl (by omega) ?_ | refine not_ rfl ?_ | refine sub_in rfl rfl (by omega) ?_ | refine load_ptr rfl (by decide) rfl (Nat.le_of_ble_eq_true rfl) rfl ?_ | refine fad_ptr rfl rfl rfl ?_ | refine iaA_ptr rfl rfl rfl (by omega) rfl ?_)
            refine rap_loop o0 (by omega) gbA i0 (by omega) _ _ _ _ i0 0 _ rfl (by omega) (by rfl) (by rfl) (by rfl) (by rfl) (by rfl) (by rfl) (by rfl) (fun hpA s' t0 t3 t5 b3 t6 t7 => ?_) (fun hpA s' t4 => ?_)
            · rw [← put_same t0, ← put_same t3, ← put_same t5, ← box_same b3, ← put_same t6, ← put_same t7]
              by_cases hwA : wsum i0 - wsum o0 = s0
              · rw [decide_eq_true hwA] at eqA
                have h0 : mD n s0 i0 o0 = true := mD_iff.mpr ⟨gaA, gbA, hpA, hnA, hwA⟩
                repeat' (first | refine call2 rfl rfl cwA ?_ | refine call1 rfl coA ?_ | refine eqs_f rfl rfl eqA ?_ | refine w_seq ?_ | refine w_ops ?_ | refine w_opsD0 rfl ?_ | refine st_nil ?_ | refine th_n ?_ | refine bk_n ?_ | refine bk_x ?_ | refine w_skip ?_ | refine w_false rfl ?_ | refine mv_c rfl ?_ | refine add_in rfl rfl (by omega) ?_ | refine load_ptr rfl (by decide) rfl (Nat.le_of_ble_eq_true rfl) rfl ?_ | refine fad_ptr rfl rfl rfl ?_ | refine iaA_ptr rfl rfl rfl (by omega) rfl ?_)
                refine w_loop ?_
                by_cases hm2 : m = 2
                · have hB : goodD m ⟨n, s0, s1, i0, i1, o0, o1⟩ = true → mD n s1 i1 o1 = true := fun h => by have := (goodD_iff.mp h).2.2.2; rw [if_pos hm2] at this; exact this
                  cases gaB : good i1 with
                  | false =>
                    rw [gaB] at gB
                    rw [hno (fun h => (mD_iff.mp (hB h)).1) (by rw [gaB]; simp)]
                    repeat' (first | refine call1 rfl gB ?_ | refine w_seq ?_ | refine w_ops ?_ | refine w_opsD0 rfl ?_ | refine st_nil ?_ | refine th_n ?_ | refine th_r ?_ | refine bk_r ?_ | refine w_block ?_ | refine w_skip ?_ | refine w_ret ?_ | refine w_true rfl ?_ | refine w_false rfl ?_ | refine g_no rfl ?_ | refine mv_c rfl ?_ | refine pick_t rfl rfl ?_ | refine lss_t rfl rfl (by omega) ?_ | refine geq_f rfl rfl (by omega) ?_ | refine not_ rfl ?_ | refine load_ptr rfl (by decide) rfl (Nat.le_of_ble_eq_true rfl) rfl ?_ | refine fad_ptr rfl rfl rfl ?_ | refine iaA_ptr rfl rfl rfl (by omega) rfl ?_)
                    exact fin_r rfl rfl
                  | true =>
                    rw [gaB] at gB
                    rw [if_pos gaB] at nB
                    cases gbB : good o1 with
                    | false =>
                      rw [gbB] at kB
                      rw [hno (fun h => (mD_iff.mp (hB h)).2.1) (by rw [gbB]; simp)]
                      repeat' (first | refine call1 rfl gB ?_ | refine call1 rfl kB ?_ | refine w_seq ?_ | refine w_ops ?_ | refine w_opsD0 rfl ?_ | refine st_nil ?_ | refine th_n ?_ | refine th_r ?_ | refine bk_r ?_ | refine w_block ?_ | refine w_skip ?_ | refine w_ret ?_ | refine w_true rfl ?_ | refine w_false rfl ?_ | refine g_yes rfl ?_ | refine g_no rfl ?_ | refine mv_c rfl ?_ | refine pick_t rfl rfl ?_ | refine pick_f rfl rfl ?_ | refine lss_t rfl rfl (by omega) ?_ | refine geq_f rfl rfl (by omega) ?_ | refine not_ rfl ?_ | refine load_ptr rfl (by decide) rfl (Nat.le_of_ble_eq_true rfl) rfl ?_ | refine fad_ptr rfl rfl rfl ?_ | refine iaA_ptr rfl rfl rfl (by omega) rfl ?_)
                      exact fin_r rfl rfl
                    | true =>
                      rw [gbB] at kB
                      rw [if_pos gbB] at qB
                      obtain ⟨paB, saB⟩ := good_facts gaB
                      obtain ⟨pbB, sbB⟩ := good_facts gbB
                      have naB := sum_nonneg paB
                      have nbB := sum_nonneg pbB
                      rw [hcap] at saB sbB
                      by_cases hnB : sum i1 - sum o1 = n
                      · have hap := hno (p := apartL i1 o1 = true) (fun h => (mD_iff.mp (hB h)).2.2.1)
                        obtain ⟨cwB, _⟩ := C_rdWide i1 o1 (by omega) (by omega) ri1 ro1 gaB gbB
                        have coB := C_rOf1 s1 hs1
                        rw [← enc3_of] at coB
                        have eqB := eqW_of (wsum i1 - wsum o1) s1
                        repeat' (first | refine call1 rfl gB ?_ | refine call1 rfl kB ?_ | refine call1 rfl nB ?_ | refine call1 rfl qB ?_ | refine w_seq ?_ | refine w_ops ?_ | refine w_opsD0 rfl ?_ | refine st_nil ?_ | refine th_n ?_ | refine w_block ?_ | refine w_skip ?_ | refine w_true rfl ?_ | refine w_false rfl ?_ | refine g_yes rfl ?_ | refine mv_c rfl ?_ | refine pick_f rfl rfl ?_ | refine lss_t rfl rfl (by omega) ?_ | refine geq_f rfl rfl (by omega) ?_ | refine neq_f rfl rfl (by omega) ?_ | refine not_ rfl ?_ | refine sub_in rfl rfl (by omega) ?_ | refine load_ptr rfl (by decide) rfl (Nat.le_of_ble_eq_true rfl) rfl ?_ | refine fad_ptr rfl rfl rfl ?_ | refine iaA_ptr rfl rfl rfl (by omega) rfl ?_)
                        refine rap_loop o1 (by omega) gbB i1 (by omega) _ _ _ _ i1 0 _ rfl (by omega) (by rfl) (by rfl) (by rfl) (by rfl) (by rfl) (by rfl) (by rfl) (fun hpB s' t0 t3 t5 b3 t6 t7 => ?_) (fun hpB s' t4 => ?_)
                        · rw [← put_same t0, ← put_same t3, ← put_same t5, ← box_same b3, ← put_same t6, ← put_same t7]
                          by_cases hwB : wsum i1 - wsum o1 = s1
                          · rw [decide_eq_true hwB] at eqB
                            rw [goodD_iff.mpr ⟨hm, hnn, h0, by rw [if_pos hm2]; exact mD_iff.mpr ⟨gaB, gbB, hpB, hnB, hwB⟩⟩]
                            repeat' (first | refine call2 rfl rfl cwB ?_ | refine call1 rfl coB ?_ | refine eqs_f rfl rfl eqB ?_ | refine w_seq ?_ | refine w_ops ?_ | refine w_opsD0 rfl ?_ | refine st_nil ?_ | refine th_n ?_ | refine bk_n ?_ | refine bk_x ?_ | refine w_skip ?_ | refine w_false rfl ?_ | refine mv_c rfl ?_ | refine add_in rfl rfl (by omega) ?_ | refine load_ptr rfl (by decide) rfl (Nat.le_of_ble_eq_true rfl) rfl ?_ | refine fad_ptr rfl rfl rfl ?_ | refine iaA_ptr rfl rfl rfl (by omega) rfl ?_)
                            refine w_loop ?_
                            repeat' (first | refine w_seq ?_ | refine w_ops ?_ | refine st_nil ?_ | refine th_n ?_ | refine th_x ?_ | refine bk_x ?_ | refine w_exit ?_ | refine w_ret ?_ | refine w_false rfl ?_ | refine mv_c rfl ?_ | refine lss_f rfl rfl (by omega) ?_)
                            exact fin_r rfl rfl
                          · rw [decide_eq_false hwB] at eqB
                            rw [hno (fun h => (mD_iff.mp (hB h)).2.2.2.2) hwB]
                            repeat' (first | refine call2 rfl rfl cwB ?_ | refine call1 rfl coB ?_ | refine eqs_f rfl rfl eqB ?_ | refine w_seq ?_ | refine w_ops ?_ | refine w_opsD0 rfl ?_ | refine st_nil ?_ | refine th_n ?_ | refine th_r ?_ | refine bk_r ?_ | refine bk_x ?_ | refine w_ret ?_ | refine w_true rfl ?_ | refine mv_c rfl ?_ | refine load_ptr rfl (by decide) rfl (Nat.le_of_ble_eq_true rfl) rfl ?_ | refine fad_ptr rfl rfl rfl ?_ | refine iaA_ptr rfl rfl rfl (by omega) rfl ?_)
                            exact fin_r rfl rfl
                        · rw [hap (by rw [hpB]; simp), ← put_same t4]
                          repeat' (first | refine th_r ?_ | refine bk_r ?_)
                          exact fin_r rfl rfl
                      · rw [hno (fun h => (mD_iff.mp (hB h)).2.2.2.1) hnB]
                        repeat' (first | refine call1 rfl gB ?_ | refine call1 rfl kB ?_ | refine call1 rfl nB ?_ | refine call1 rfl qB ?_ | refine w_seq ?_ | refine w_ops ?_ | refine w_opsD0 rfl ?_ | refine st_nil ?_ | refine th_n ?_ | refine th_r ?_ | refine bk_r ?_ | refine w_block ?_ | refine w_skip ?_ | refine w_ret ?_ | refine w_true rfl ?_ | refine w_false rfl ?_ | refine g_yes rfl ?_ | refine mv_c rfl ?_ | refine pick_f rfl rfl ?_ | refine lss_t rfl rfl (by omega) ?_ | refine geq_f rfl rfl (by omega) ?_ | refine neq_t rfl rfl (by omega) ?_ | refine not_ rfl ?_ | refine sub_in rfl rfl (by omega) ?_ | refine load_ptr rfl (by decide) rfl (Nat.le_of_ble_eq_true rfl) rfl ?_ | refine fad_ptr rfl rfl rfl ?_ | refine iaA_ptr rfl rfl rfl (by omega) rfl ?_)
                        exact fin_r rfl rfl
                · have hz : goodD m ⟨n, s0, s1, i0, i1, o0, o1⟩ = true → s1 = 0 ∧ i1 = [] ∧ o1 = [] := fun h => by have := (goodD_iff.mp h).2.2.2; rw [if_neg hm2] at this; exact this
                  by_cases z1 : s1 = 0
                  · cases i1 with
                    | nil =>
                      cases o1 with
                      | nil =>
                        rw [goodD_iff.mpr ⟨hm, hnn, h0, by rw [if_neg hm2]; exact ⟨z1, rfl, rfl⟩⟩]
                        repeat' (first | refine len_sl (es := []) rfl rfl ?_ | refine w_seq ?_ | refine w_ops ?_ | refine w_opsD0 rfl ?_ | refine st_nil ?_ | refine th_n ?_ | refine th_x ?_ | refine bk_x ?_ | refine w_block ?_ | refine w_skip ?_ | refine w_exit ?_ | refine w_true rfl ?_ | refine w_false rfl ?_ | refine g_yes rfl ?_ | refine mv_c rfl ?_ | refine pick_f rfl rfl ?_ | refine lss_t rfl rfl (by omega) ?_ | refine gtr_ rfl rfl ?_ | refine geq_t rfl rfl (by omega) ?_ | refine neq_f rfl rfl (by omega) ?_ | refine add_in rfl rfl (by omega) ?_ | refine load_ptr rfl (by decide) rfl (Nat.le_of_ble_eq_true rfl) rfl ?_ | refine fad_ptr rfl rfl rfl ?_ | refine iaA_ptr rfl rfl rfl (by omega) rfl ?_)
                        refine w_loop ?_
                        repeat' (first | refine w_seq ?_ | refine w_ops ?_ | refine st_nil ?_ | refine th_n ?_ | refine th_x ?_ | refine bk_x ?_ | refine w_exit ?_ | refine w_ret ?_ | refine w_false rfl ?_ | refine mv_c rfl ?_ | refine lss_f rfl rfl (by omega) ?_)
                        exact fin_r rfl rfl
                      | cons x o1 =>
                        rw [hno (fun h => (hz h).2.2) (by simp)]
                        have hp : 0 < (x :: o1).length := by simp
                        repeat' (first | refine len_sl (es := []) rfl rfl ?_ | refine len_sl rfl (List.length_map _) ?_ | refine w_seq ?_ | refine w_ops ?_ | refine w_opsD0 rfl ?_ | refine st_nil ?_ | refine th_n ?_ | refine th_r ?_ | refine bk_r ?_ | refine w_block ?_ | refine w_skip ?_ | refine w_ret ?_ | refine w_true rfl ?_ | refine g_yes rfl ?_ | refine mv_c rfl ?_ | refine pick_f rfl rfl ?_ | refine lss_t rfl rfl (by omega) ?_ | refine gtr_t rfl rfl (by omega) ?_ | refine gtr_ rfl rfl ?_ | refine geq_t rfl rfl (by omega) ?_ | refine neq_f rfl rfl (by omega) ?_ | refine load_ptr rfl (by decide) rfl (Nat.le_of_ble_eq_true rfl) rfl ?_ | refine fad_ptr rfl rfl rfl ?_ | refine iaA_ptr rfl rfl rfl (by omega) rfl ?_)
                        exact fin_r rfl rfl
                    | cons x i1 =>
                      rw [hno (fun h => (hz h).2.1) (by simp)]
                      have hp : 0 < (x :: i1).length := by simp
                      repeat' (first | refine len_sl rfl (List.length_map _) ?_ | refine w_seq ?_ | refine w_ops ?_ | refine w_opsD0 rfl ?_ | refine st_nil ?_ | refine th_n ?_ | refine th_r ?_ | refine bk_r ?_ | refine w_block ?_ | refine w_skip ?_ | refine w_ret ?_ | refine w_true rfl ?_ | refine g_yes rfl ?_ | refine g_no rfl ?_ | refine mv_c rfl ?_ | refine pick_t rfl rfl ?_ | refine pick_f rfl rfl ?_ | refine lss_t rfl rfl (by omega) ?_ | refine gtr_t rfl rfl (by omega) ?_ | refine geq_t rfl rfl (by omega) ?_ | refine neq_f rfl rfl (by omega) ?_ | refine load_ptr rfl (by decide) rfl (Nat.le_of_ble_eq_true rfl) rfl ?_ | refine fad_ptr rfl rfl rfl ?_ | refine iaA_ptr rfl rfl rfl (by omega) rfl ?_)
                      exact fin_r rfl rfl
                  · rw [hno (fun h => (hz h).1) z1]
                    repeat' (first | refine w_seq ?_ | refine w_ops ?_ | refine w_opsD0 rfl ?_ | refine st_nil ?_ | refine th_n ?_ | refine th_r ?_ | refine bk_r ?_ | refine w_block ?_ | refine w_skip ?_ | refine w_ret ?_ | refine w_true rfl ?_ | refine g_no rfl ?_ | refine mv_c rfl ?_ | refine pick_t rfl rfl ?_ | refine lss_t rfl rfl (by omega) ?_ | refine geq_t rfl rfl (by omega) ?_ | refine neq_t rfl rfl (by omega) ?_ | refine load_ptr rfl (by decide) rfl (Nat.le_of_ble_eq_true rfl) rfl ?_ | refine fad_ptr rfl rfl rfl ?_ | refine iaA_ptr rfl rfl rfl (by omega) rfl ?_)
                    exact fin_r rfl rfl
              · rw [decide_eq_false hwA] at eqA
                rw [hno (fun h => (mD_iff.mp (hA h)).2.2.2.2) hwA]
                repeat' (first | refine call2 rfl rfl cwA ?_ | refine call1 rfl coA ?_ | refine eqs_f rfl rfl eqA ?_ | refine w_seq ?_ | refine w_ops ?_ | refine w_opsD0 rfl ?_ | refine st_nil ?_ | refine th_n ?_ | refine th_r ?_ | refine bk_r ?_ | refine bk_x ?_ | refine w_ret ?_ | refine w_true rfl ?_ | refine mv_c rfl ?_ | refine load_ptr rfl (by decide) rfl (Nat.le_of_ble_eq_true rfl) rfl ?_ | refine fad_ptr rfl rfl rfl ?_ | refine iaA_ptr rfl rfl rfl (by omega) rfl ?_)
                exact fin_r rfl rfl
            · rw [hap (by rw [hpA]; simp), ← put_same t4]
              repeat' (first | refine th_r ?_ | refine bk_r ?_)
              exact fin_r rfl rfl
          · rw [hno (fun h => (mD_iff.mp (hA h)).2.2.2.1) hnA]
            repeat' (first | refine call1 rfl gA ?_ | refine call1 rfl kA ?_ | refine call1 rfl nA ?_ | refine call1 rfl qA ?_ | refine w_seq ?_ | refine w_ops ?_ | refine w_opsD0 rfl ?_ | refine st_nil ?_ | refine th_n ?_ | refine th_r ?_ | refine bk_r ?_ | refine w_block ?_ | refine w_skip ?_ | refine w_ret ?_ | refine w_true rfl ?_ | refine w_false rfl ?_ | refine g_yes rfl ?_ | refine mv_c rfl ?_ | refine pick_f rfl rfl ?_ | refine lss_t rfl rfl (by omega) ?_ | refine geq_f rfl rfl (by omega) ?_ | refine neq_t rfl rfl (by omega) ?_ | refine not_ rfl ?_ | refine sub_in rfl rfl (by omega) ?_ | refine load_ptr rfl (by decide) rfl (Nat.le_of_ble_eq_true rfl) rfl ?_ | refine fad_ptr rfl rfl rfl ?_ | refine iaA_ptr rfl rfl rfl (by omega) rfl ?_)
            exact fin_r rfl rfl
    · rw [hno (fun h => (goodD_iff.mp h).2.1) hnn]
      by_cases h1 : n < -1099511627776
      · repeat' (first | refine w_seq ?_ | refine w_ops ?_ | refine st_nil ?_ | refine th_n ?_ | refine th_r ?_ | refine w_ret ?_ | refine w_true rfl ?_ | refine g_yes rfl ?_ | refine g_no rfl ?_ | refine mv_c rfl ?_ | refine pick_t rfl rfl ?_ | refine pick_f rfl rfl ?_ | refine lss_t rfl rfl (by omega) ?_ | refine lss_f rfl rfl (by omega) ?_ | refine gtr_f rfl rfl (by omega) ?_ | refine box_ rfl rfl rfl (fun u => ?_) | refine load_ptr rfl (by decide) rfl (Nat.le_of_ble_eq_true rfl) rfl ?_ | refine fad_ptr rfl rfl rfl ?_)
        exact fin_r rfl rfl
      · repeat' (first | refine w_seq ?_ | refine w_ops ?_ | refine st_nil ?_ | refine th_n ?_ | refine th_r ?_ | refine w_ret ?_ | refine w_true rfl ?_ | refine g_yes rfl ?_ | refine mv_c rfl ?_ | refine pick_f rfl rfl ?_ | refine lss_f rfl rfl (by omega) ?_ | refine gtr_t rfl rfl (by omega) ?_ | refine gtr_f rfl rfl (by omega) ?_ | refine box_ rfl rfl rfl (fun u => ?_) | refine load_ptr rfl (by decide) rfl (Nat.le_of_ble_eq_true rfl) rfl ?_ | refine fad_ptr rfl rfl rfl ?_)
        exact fin_r rfl rfl
  · rw [hno (fun h => (goodD_iff.mp h).1) hm]
    by_cases h1 : m < 1
    · repeat' (first | refine w_seq ?_ | refine w_ops ?_ | refine st_nil ?_ | refine th_n ?_ | refine th_r ?_ | refine w_ret ?_ | refine w_true rfl ?_ | refine g_no rfl ?_ | refine mv_c rfl ?_ | refine pick_t rfl rfl ?_ | refine lss_t rfl rfl (by omega) ?_ | refine box_ rfl rfl rfl (fun u => ?_))
      exact fin_r rfl rfl
    · repeat' (first | refine w_seq ?_ | refine w_ops ?_ | refine st_nil ?_ | refine th_n ?_ | refine th_r ?_ | refine w_ret ?_ | refine w_true rfl ?_ | refine g_yes rfl ?_ | refine g_no rfl ?_ | refine mv_c rfl ?_ | refine pick_t rfl rfl ?_ | refine pick_f rfl rfl ?_ | refine lss_f rfl rfl (by omega) ?_ | refine gtr_t rfl rfl (by omega) ?_ | refine box_ rfl rfl rfl (fun u => ?_))
      exact fin_r rfl rfl
theorem C_rdIdle (m : Int) (d : Delta) (hd : inD 999999 d) : PCallG Try.prog 68 [.c (.int .i64 m), .c (encDelta d)] (.c (.bool (idleD m d))) [] := by
  have c1 := C_rdGood m d hd
  obtain ⟨n, s0, s1, i0, i1, o0, o1⟩ := d
  obtain ⟨hn, hs0, hs1, ⟨ri0, li0⟩, ⟨ri1, li1⟩, ⟨ro0, lo0⟩, ⟨ro1, lo1⟩⟩ := hd
  simp only at hn hs0 hs1 ri0 li0 ri1 li1 ro0 lo0 ro1 lo1
  show PCallG _ 68 [.c (.int .i64 m), .c (.agg [.int .i64 n, .int .i64 s0, .int .i64 s1, encL i0, encL i1, encL o0, encL o1])] _ _
  refine pcallF Try.func68 c68 rfl ?_
  have hno : ∀ {p : Prop}, (Delta.mk n s0 s1 i0 i1 o0 o1 = zeroD → p) → ¬ p → idleD m ⟨n, s0, s1, i0, i1, o0, o1⟩ = false := fun h hp => by
    unfold idleD; rw [decide_eq_false (fun e => hp (h e)), Bool.and_false]
  unfold p68 r68_0 r68_1 r68_2 r68_3 r68_8
  cases hg : goodD m ⟨n, s0, s1, i0, i1, o0, o1⟩ with
  | false =>
    rw [hg] at c1
    rw [show idleD m ⟨n, s0, s1, i0, i1, o0, o1⟩ = false by unfold idleD; rw [hg]; rfl]
    repeat' (first | refine call2 rfl rfl c1 ?_ | refine w_seq ?_ | refine w_ops ?_ | refine st_nil ?_ | refine th_n ?_ | refine th_r ?_ | refine w_ret ?_ | refine w_true rfl ?_ | refine g_no rfl ?_ | refine mv_c rfl ?_ | refine pick_t rfl rfl ?_ | refine not_ rfl ?_ | refine box_ rfl rfl rfl (fun u => ?_) | refine load_ptr rfl (by decide) rfl (Nat.le_of_ble_eq_true rfl) rfl ?_)
    exact fin_r rfl rfl
  | true =>
    rw [hg] at c1
    obtain ⟨hm, hnn, d1, d2⟩ := goodD_iff.mp hg
    obtain ⟨_, _, _, _, e0⟩ := mD_iff.mp d1
    simp only at e0 d2
    by_cases z : n = 0
    · cases i0 with
      | nil =>
        cases o0 with
        | nil =>
          simp only [wsum] at e0
          repeat' (first | refine call2 rfl rfl c1 ?_ | refine w_seq ?_ | refine w_ops ?_ | refine st_nil ?_ | refine th_n ?_ | refine w_block ?_ | refine w_skip ?_ | refine w_false rfl ?_ | refine g_yes rfl ?_ | refine mv_c rfl ?_ | refine pick_f rfl rfl ?_ | refine neq_f rfl rfl (by omega) ?_ | refine not_ rfl ?_ | refine box_ rfl rfl rfl (fun u => ?_) | refine load_ptr rfl (by decide) rfl (Nat.le_of_ble_eq_true rfl) rfl ?_ | refine fad_ptr rfl rfl rfl ?_)
          refine w_loop ?_
          unfold b68_0 r68_4 r68_5 r68_6 r68_7
          repeat' (first | refine len_sl (es := []) rfl rfl ?_ | refine w_seq ?_ | refine w_ops ?_ | refine st_nil ?_ | refine th_n ?_ | refine bk_n ?_ | refine w_block ?_ | refine w_skip ?_ | refine w_true rfl ?_ | refine w_false rfl ?_ | refine g_yes rfl ?_ | refine mv_c rfl ?_ | refine pick_f rfl rfl ?_ | refine lss_t rfl rfl (by omega) ?_ | refine gtr_ rfl rfl ?_ | refine add_in rfl rfl (by omega) ?_ | refine load_ptr rfl (by decide) rfl (Nat.le_of_ble_eq_true rfl) rfl ?_ | refine fad_ptr rfl rfl rfl ?_ | refine iaA_ptr rfl rfl rfl (by omega) rfl ?_)
          refine w_loop ?_
          by_cases hm2 : m = 2
          · rw [if_pos hm2] at d2
            obtain ⟨_, _, _, _, e1⟩ := mD_iff.mp d2
            cases i1 with
            | nil =>
              cases o1 with
              | nil =>
                simp only [wsum] at e1
                rw [show idleD m ⟨n, s0, s1, [], [], [], []⟩ = true by unfold idleD; rw [hg, decide_eq_true (by simp [zeroD]; omega)]; rfl]
                repeat' (first | refine len_sl (es := []) rfl rfl ?_ | refine w_seq ?_ | refine w_ops ?_ | refine st_nil ?_ | refine th_n ?_ | refine bk_n ?_ | refine w_block ?_ | refine w_skip ?_ | refine w_true rfl ?_ | refine w_false rfl ?_ | refine g_yes rfl ?_ | refine mv_c rfl ?_ | refine pick_f rfl rfl ?_ | refine lss_t rfl rfl (by omega) ?_ | refine gtr_ rfl rfl ?_ | refine add_in rfl rfl (by omega) ?_ | refine load_ptr rfl (by decide) rfl (Nat.le_of_ble_eq_true rfl) rfl ?_ | refine fad_ptr rfl rfl rfl ?_ | refine iaA_ptr rfl rfl rfl (by omega) rfl ?_)
                refine w_loop ?_
                repeat' (first | refine w_seq ?_ | refine w_ops ?_ | refine st_nil ?_ | refine th_n ?_ | refine th_x ?_ | refine bk_x ?_ | refine w_exit ?_ | refine w_ret ?_ | refine w_false rfl ?_ | refine mv_c rfl ?_ | refine lss_f rfl rfl (by omega) ?_)
                exact fin_r rfl rfl
              | cons x o1 =>
                rw [hno (congrArg Delta.o1) (by simp [zeroD])]
                have hp : 0 < (x :: o1).length := by simp
                repeat' (first | refine len_sl (es := []) rfl rfl ?_ | refine len_sl rfl (List.length_map _) ?_ | refine w_seq ?_ | refine w_ops ?_ | refine st_nil ?_ | refine th_n ?_ | refine th_r ?_ | refine bk_r ?_ | refine w_block ?_ | refine w_skip ?_ | refine w_ret ?_ | refine w_true rfl ?_ | refine g_yes rfl ?_ | refine mv_c rfl ?_ | refine pick_f rfl rfl ?_ | refine lss_t rfl rfl (by omega) ?_ | refine gtr_t rfl rfl (by omega) ?_ | refine gtr_ rfl rfl ?_ | refine load_ptr rfl (by decide) rfl (Nat.le_of_ble_eq_true rfl) rfl ?_ | refine fad_ptr rfl rfl rfl ?_ | refine iaA_ptr rfl rfl rfl (by omega) rfl ?_)
                exact fin_r rfl rfl
            | cons x i1 =>
              rw [hno (congrArg Delta.i1) (by simp [zeroD])]
              have hp : 0 < (x :: i1).length := by simp
              repeat' (first | refine len_sl rfl (List.length_map _) ?_ | refine w_seq ?_ | refine w_ops ?_ | refine st_nil ?_ | refine th_n ?_ | refine th_r ?_ | refine bk_r ?_ | refine w_block ?_ | refine w_skip ?_ | refine w_ret ?_ | refine w_true rfl ?_ | refine g_no rfl ?_ | refine mv_c rfl ?_ | refine pick_t rfl rfl ?_ | refine lss_t rfl rfl (by omega) ?_ | refine gtr_t rfl rfl (by omega) ?_ | refine load_ptr rfl (by decide) rfl (Nat.le_of_ble_eq_true rfl) rfl ?_ | refine fad_ptr rfl rfl rfl ?_ | refine iaA_ptr rfl rfl rfl (by omega) rfl ?_)
              exact fin_r rfl rfl
          · rw [if_neg hm2] at d2
            obtain ⟨z1, rfl, rfl⟩ := d2
            rw [show idleD m ⟨n, s0, s1, [], [], [], []⟩ = true by unfold idleD; rw [hg, decide_eq_true (by simp [zeroD]; omega)]; rfl]
            repeat' (first | refine w_seq ?_ | refine w_ops ?_ | refine st_nil ?_ | refine th_n ?_ | refine th_x ?_ | refine bk_x ?_ | refine w_exit ?_ | refine w_ret ?_ | refine w_false rfl ?_ | refine mv_c rfl ?_ | refine lss_f rfl rfl (by omega) ?_)
            exact fin_r rfl rfl
        | cons x o0 =>
          rw [hno (congrArg Delta.o0) (by simp [zeroD])]
          have hp : 0 < (x :: o0).length := by simp
          repeat' (first | refine call2 rfl rfl c1 ?_ | refine w_seq ?_ | refine w_ops ?_ | refine st_nil ?_ | refine th_n ?_ | refine w_block ?_ | refine w_skip ?_ | refine w_false rfl ?_ | refine g_yes rfl ?_ | refine mv_c rfl ?_ | refine pick_f rfl rfl ?_ | refine neq_f rfl rfl (by omega) ?_ | refine not_ rfl ?_ | refine box_ rfl rfl rfl (fun u => ?_) | refine load_ptr rfl (by decide) rfl (Nat.le_of_ble_eq_true rfl) rfl ?_ | refine fad_ptr rfl rfl rfl ?_)
          refine w_loop ?_
          unfold b68_0 r68_4 r68_5 r68_6 r68_7
          repeat' (first | refine len_sl (es := []) rfl rfl ?_ | refine len_sl rfl (List.length_map _) ?_ | refine w_seq ?_ | refine w_ops ?_ | refine st_nil ?_ | refine th_n ?_ | refine th_r ?_ | refine bk_r ?_ | refine w_block ?_ | refine w_skip ?_ | refine w_ret ?_ | refine w_true rfl ?_ | refine g_yes rfl ?_ | refine mv_c rfl ?_ | refine pick_f rfl rfl ?_ | refine lss_t rfl rfl (by omega) ?_ | refine gtr_t rfl rfl (by omega) ?_ | refine gtr_ rfl rfl ?_ | refine load_ptr rfl (by decide) rfl (Nat.le_of_ble_eq_true rfl) rfl ?_ | refine fad_ptr rfl rfl rfl ?_ | refine iaA_ptr rfl rfl rfl (by omega) rfl ?_)
          exact fin_r rfl rfl
      | cons x i0 =>
        rw [hno (congrArg Delta.i0) (by simp [zeroD])]
        have hp : 0 < (x :: i0).length := by simp
        repeat' (first | refine call2 rfl rfl c1 ?_ | refine w_seq ?_ | refine w_ops ?_ | refine st_nil ?_ | refine th_n ?_ | refine w_block ?_ | refine w_skip ?_ | refine w_false rfl ?_ | refine g_yes rfl ?_ | refine mv_c rfl ?_ | refine pick_f rfl rfl ?_ | refine neq_f rfl rfl (by omega) ?_ | refine not_ rfl ?_ | refine box_ rfl rfl rfl (fun u => ?_) | refine load_ptr rfl (by decide) rfl (Nat.le_of_ble_eq_true rfl) rfl ?_ | refine fad_ptr rfl rfl rfl ?_)
        refine w_loop ?_
        unfold b68_0 r68_4 r68_5 r68_6 r68_7
        repeat' (first | refine len_sl rfl (List.length_map _) ?_ | refine w_seq ?_ | refine w_ops ?_ | refine st_nil ?_ | refine th_n ?_ | refine th_r ?_ | refine bk_r ?_ | refine w_block ?_ | refine w_skip ?_ | refine w_ret ?_ | refine w_true rfl ?_ | refine g_no rfl ?_ | refine mv_c rfl ?_ | refine pick_t rfl rfl ?_ | refine lss_t rfl rfl (by omega) ?_ | refine gtr_t rfl rfl (by omega) ?_ | refine load_ptr rfl (by decide) rfl (Nat.le_of_ble_eq_true rfl) rfl ?_ | refine fad_ptr rfl rfl rfl ?_ | refine iaA_ptr rfl rfl rfl (by omega) rfl ?_)
        exact fin_r rfl rfl
    · rw [hno (congrArg Delta.n) z]
      repeat' (first | refine call2 rfl rfl c1 ?_ | refine w_seq ?_ | refine w_ops ?_ | refine st_nil ?_ | refine th_n ?_ | refine th_r ?_ | refine w_ret ?_ | refine w_true rfl ?_ | refine g_yes rfl ?_ | refine mv_c rfl ?_ | refine pick_f rfl rfl ?_ | refine neq_t rfl rfl (by omega) ?_ | refine not_ rfl ?_ | refine box_ rfl rfl rfl (fun u => ?_) | refine load_ptr rfl (by decide) rfl (Nat.le_of_ble_eq_true rfl) rfl ?_ | refine fad_ptr rfl rfl rfl ?_)
      exact fin_r rfl rfl
end Go.Proofs.Ytcmejdkjfekoeaa
namespace Go.Proofs.Ytcmejdkjfekoeaa
open Go.Pl Go.Bag
set_option maxHeartbeats 32000000
set_option maxRecDepth 100000
def rdV (p : Delta × Bool) : CV := .agg [.int .i64 p.1.n, .int .i64 p.1.s0, .int .i64 p.1.s1, encL p.1.i0, encL p.1.i1, encL p.1.o0, encL p.1.o1, .bool p.2]
theorem cut_loop1 {K : Ex → PS → Prop} (i0 i1 o0 o1 : List Run) (q : Int) (hq : q = 0 ∨ q = 1) (A B : List Run) (hA : A = if q = 0 then i0 else i1) (hB : B = if q = 0 then o0 else o1) (lA : A.length ≤ 999999) (lB : B.length ≤ 999999) (gB : good B = true)
    (v0 v8 v9 : PV) (x8 x9 : Box) (u6 u7 u12 : Nat) (hrange : ranged A) (hpA : pos A) : ∀ (rest : List Run) (j : Nat) (out : List Run) (s : PS), A.drop j = rest → j ≤ A.length → out.length ≤ j →
    s.t 0 = v0 → s.t 10 = .c (.int .i64 q) → s.t 6 = .ptr 6 u6 0 → s.bx 6 = ⟨u6, .var [encL i0, encL i1]⟩ → s.t 7 = .ptr 7 u7 0 → s.bx 7 = ⟨u7, .var [encL o0, encL o1]⟩ → s.t 8 = v8 → s.bx 8 = x8 → s.t 9 = v9 → s.bx 9 = x9 →
    s.t 12 = .osl 12 u12 0 0 → s.bx 12 = ⟨u12, .sl 2 []⟩ → s.t 13 = .c (.int .i64 j) → s.t 11 = .osl 11 (s.bx 11).ver 0 (encE out).length → s.bx 11 = ⟨(s.bx 11).ver, .sl 2 (encE out)⟩ →
    (∀ s' v, s'.t 0 = v0 → s'.t 10 = .c (.int .i64 q) → s'.t 6 = .ptr 6 u6 0 → s'.bx 6 = ⟨u6, .var [encL i0, encL i1]⟩ → s'.t 7 = .ptr 7 u7 0 → s'.bx 7 = ⟨u7, .var [encL o0, encL o1]⟩ → s'.t 8 = v8 → s'.bx 8 = x8 → s'.t 9 = v9 → s'.bx 9 = x9 →
      s'.t 12 = .osl 12 u12 0 0 → s'.bx 12 = ⟨u12, .sl 2 []⟩ → s'.t 11 = .osl 11 v 0 (encE (out ++ cut B rest)).length → s'.bx 11 = ⟨v, .sl 2 (encE (out ++ cut B rest))⟩ → K (.x 2) s') → wP (PCallG Try.prog) (.loop b101_1) s K := by
  intro rest
  induction rest with
  | nil =>
    intro j out s hd hj ho t0 t10 t6 b6 t7 b7 t8 b8 t9 b9 t12 b12 t13 t11 b11 hx
    refine w_loop ?_
    have := get_end hd hj
    subst this
    generalize (s.bx 11).ver = v11 at t11 b11
    rw [← put_same t0, ← put_same t10, ← put_same t6, ← box_same b6, ← put_same t7, ← box_same b7, ← put_same t8, ← box_same b8, ← put_same t9, ← box_same b9, ← put_same t12, ← box_same b12, ← put_same t13, ← put_same t11, ← box_same b11]
    unfold b101_1 r101_7 r101_8 r101_9 r101_10 r101_11 r101_12
    rcases hq with rfl | rfl
    · simp only [if_true] at hA
      subst hA
      repeat' (first | refine len_sl rfl (List.length_map _) ?_ | refine w_seq ?_ | refine w_ops ?_ | refine st_nil ?_ | refine th_n ?_ | refine th_x ?_ | refine w_exit ?_ | refine w_false rfl ?_ | refine mv_c rfl ?_ | refine lss_f rfl rfl (by omega) ?_ | refine load_ptr rfl (by decide) rfl (Nat.le_of_ble_eq_true rfl) rfl ?_ | refine iaA_ptr rfl rfl rfl (by omega) rfl ?_)
      exact hx _ v11 (by rfl) (by rfl) (by rfl) (by rfl) (by rfl) (by rfl) (by rfl) (by rfl) (by rfl) (by rfl) (by rfl) (by rfl) (by simp only [cut, List.append_nil]; rfl) (by simp only [cut, List.append_nil]; rfl)
    · rw [if_neg (by decide)] at hA
      subst hA
      repeat' (first | refine len_sl rfl (List.length_map _) ?_ | refine w_seq ?_ | refine w_ops ?_ | refine st_nil ?_ | refine th_n ?_ | refine th_x ?_ | refine w_exit ?_ | refine w_false rfl ?_ | refine mv_c rfl ?_ | refine lss_f rfl rfl (by omega) ?_ | refine load_ptr rfl (by decide) rfl (Nat.le_of_ble_eq_true rfl) rfl ?_ | refine iaA_ptr rfl rfl rfl (by omega) rfl ?_)
      exact hx _ v11 (by rfl) (by rfl) (by rfl) (by rfl) (by rfl) (by rfl) (by rfl) (by rfl) (by rfl) (by rfl) (by rfl) (by rfl) (by simp only [cut, List.append_nil]; rfl) (by simp only [cut, List.append_nil]; rfl)
  | cons r rest ih =>
    intro j out s hd hj ho t0 t10 t6 b6 t7 b7 t8 b8 t9 b9 t12 b12 t13 t11 b11 hx
    refine w_loop ?_
    have he := get_enc hd
    have hl := get_len hd
    have hn := get_next hd
    have hC := C_rHas B r.1 (by omega)
    rw [if_pos gB] at hC
    have hmin : (if has B r.1 < r.2 then has B r.1 else r.2) = min r.2 (has B r.1) := by split <;> omega
    have hk : (encE out).length = out.length := List.length_map _
    have z1 : ∀ q : List CV, (encE out).length + [q].length ≤ maxGrow := fun q => by rw [hk]; simp [maxGrow]; omega
    have z2 : ∀ q : Run, encE out ++ [encR q] = encE (out ++ [q]) := fun q => by simp [encE]
    have hmem : r ∈ A := by have : r ∈ A.drop j := by rw [hd]; simp
                            exact List.mem_of_mem_drop this
    have hr2 := hrange r hmem
    have hr1 := hpA r hmem
    have hh : 0 ≤ has B r.1 := by rw [has_cnt _ (good_iff.mp gB).1]; exact cnt_good gB _
    have hm0 : 0 ≤ r.2 - min r.2 (has B r.1) ∧ r.2 - min r.2 (has B r.1) ≤ 9223372036854775807 := by omega
    generalize (s.bx 11).ver = v11 at t11 b11
    rw [← put_same t0, ← put_same t10, ← put_same t6, ← box_same b6, ← put_same t7, ← box_same b7, ← put_same t8, ← box_same b8, ← put_same t9, ← box_same b9, ← put_same t12, ← box_same b12, ← put_same t13, ← put_same t11, ← box_same b11]
    unfold b101_1 r101_7 r101_8 r101_9 r101_10 r101_11 r101_12
    by_cases h : 0 < r.2 - min r.2 (has B r.1)
    · have e : out ++ cut B (r :: rest) = (out ++ [(r.1, r.2 - min r.2 (has B r.1))]) ++ cut B rest := by simp only [cut, some_, if_pos h, List.append_assoc]
      rw [e] at hx
      rcases hq with rfl | rfl
      · simp only [if_true] at hA hB
        subst hA; subst hB
        repeat' (first | refine len_sl rfl (List.length_map _) ?_ | refine call2 rfl rfl hC ?_ | refine mm_minv rfl rfl hmin ?_ | refine app_own rfl rfl rfl rfl (z1 _) (by intro e he; cases List.mem_singleton.mp he; rfl) (z2 (r.1, r.2 - min r.2 (has B r.1))) rfl (fun _ _ => ?_) | refine w_seq ?_ | refine w_ops ?_ | refine w_opsD0 rfl ?_ | refine st_nil ?_ | refine th_n ?_ | refine bk_n ?_ | refine w_block ?_ | refine w_skip ?_ | refine w_true rfl ?_ | refine mv_c rfl ?_ | refine mv_osl rfl ?_ | refine lss_t rfl rfl (by omega) ?_ | refine gtr_t rfl rfl (by omega) ?_ | refine add_in rfl rfl (by omega) ?_ | refine sub_in rfl rfl (by omega) ?_ | refine alloc_ (fun u => ?_) | refine bsl_ rfl rfl ?_ | refine load_rp rfl (Nat.le_of_ble_eq_true rfl) rfl ?_ | refine load_ptr rfl (by decide) rfl (Nat.le_of_ble_eq_true rfl) rfl ?_ | refine store_ptr rfl rfl (by decide) rfl rfl (Nat.le_of_ble_eq_true rfl) rfl ?_ | refine fad_ptr rfl rfl rfl ?_ | refine iaA_ptr rfl rfl rfl (by omega) rfl ?_ | refine iaS_c rfl rfl (by omega) (by assumption) rfl ?_ | refine w_rn rfl (by decide) rfl rfl (fun _ _ => ?_))
        exact ih (j + 1) (out ++ [(r.1, r.2 - min r.2 (has B r.1))]) _ hn (by omega) (by simp; omega) (by rfl) (by rfl) (by rfl) (by rfl) (by rfl) (by rfl) (by rfl) (by rfl) (by rfl) (by rfl) (by rfl) (by rfl) (by rfl) (by rfl) (by rfl) hx
      · rw [if_neg (by decide)] at hA hB
        subst hA; subst hB
        repeat' (first | refine len_sl rfl (List.length_map _) ?_ | refine call2 rfl rfl hC ?_ | refine mm_minv rfl rfl hmin ?_ | refine app_own rfl rfl rfl rfl (z1 _) (by intro e he; cases List.mem_singleton.mp he; rfl) (z2 (r.1, r.2 - min r.2 (has B r.1))) rfl (fun _ _ => ?_) | refine w_seq ?_ | refine w_ops ?_ | refine w_opsD0 rfl ?_ | refine st_nil ?_ | refine th_n ?_ | refine bk_n ?_ | refine w_block ?_ | refine w_skip ?_ | refine w_true rfl ?_ | refine mv_c rfl ?_ | refine mv_osl rfl ?_ | refine lss_t rfl rfl (by omega) ?_ | refine gtr_t rfl rfl (by omega) ?_ | refine add_in rfl rfl (by omega) ?_ | refine sub_in rfl rfl (by omega) ?_ | refine alloc_ (fun u => ?_) | refine bsl_ rfl rfl ?_ | refine load_rp rfl (Nat.le_of_ble_eq_true rfl) rfl ?_ | refine load_ptr rfl (by decide) rfl (Nat.le_of_ble_eq_true rfl) rfl ?_ | refine store_ptr rfl rfl (by decide) rfl rfl (Nat.le_of_ble_eq_true rfl) rfl ?_ | refine fad_ptr rfl rfl rfl ?_ | refine iaA_ptr rfl rfl rfl (by omega) rfl ?_ | refine iaS_c rfl rfl (by omega) (by assumption) rfl ?_ | refine w_rn rfl (by decide) rfl rfl (fun _ _ => ?_))
        exact ih (j + 1) (out ++ [(r.1, r.2 - min r.2 (has B r.1))]) _ hn (by omega) (by simp; omega) (by rfl) (by rfl) (by rfl) (by rfl) (by rfl) (by rfl) (by rfl) (by rfl) (by rfl) (by rfl) (by rfl) (by rfl) (by rfl) (by rfl) (by rfl) hx
    · have e : out ++ cut B (r :: rest) = out ++ cut B rest := by simp only [cut, some_, if_neg h, List.nil_append]
      rw [e] at hx
      rcases hq with rfl | rfl
      · simp only [if_true] at hA hB
        subst hA; subst hB
        repeat' (first | refine len_sl rfl (List.length_map _) ?_ | refine call2 rfl rfl hC ?_ | refine mm_minv rfl rfl hmin ?_ | refine w_seq ?_ | refine w_ops ?_ | refine w_opsD0 rfl ?_ | refine st_nil ?_ | refine th_n ?_ | refine bk_n ?_ | refine w_block ?_ | refine w_skip ?_ | refine w_true rfl ?_ | refine w_false rfl ?_ | refine mv_c rfl ?_ | refine lss_t rfl rfl (by omega) ?_ | refine gtr_f rfl rfl (by omega) ?_ | refine add_in rfl rfl (by omega) ?_ | refine sub_in rfl rfl (by omega) ?_ | refine alloc_ (fun u => ?_) | refine load_rp rfl (Nat.le_of_ble_eq_true rfl) rfl ?_ | refine load_ptr rfl (by decide) rfl (Nat.le_of_ble_eq_true rfl) rfl ?_ | refine store_ptr rfl rfl (by decide) rfl rfl (Nat.le_of_ble_eq_true rfl) rfl ?_ | refine fad_ptr rfl rfl rfl ?_ | refine iaA_ptr rfl rfl rfl (by omega) rfl ?_ | refine iaS_c rfl rfl (by omega) (by assumption) rfl ?_ | refine w_rn_same rfl ?_)
        exact ih (j + 1) out _ hn (by omega) (by omega) (by rfl) (by rfl) (by rfl) (by rfl) (by rfl) (by rfl) (by rfl) (by rfl) (by rfl) (by rfl) (by rfl) (by rfl) (by rfl) (by rfl) (by rfl) hx
      · rw [if_neg (by decide)] at hA hB
        subst hA; subst hB
        repeat' (first | refine len_sl rfl (List.length_map _) ?_ | refine call2 rfl rfl hC ?_ | refine mm_minv rfl rfl hmin ?_ | refine w_seq ?_ | refine w_ops ?_ | refine w_opsD0 rfl ?_ | refine st_nil ?_ | refine th_n ?_ | refine bk_n ?_ | refine w_block ?_ | refine w_skip ?_ | refine w_true rfl ?_ | refine w_false rfl ?_ | refine mv_c rfl ?_ | refine lss_t rfl rfl (by omega) ?_ | refine gtr_f rfl rfl (by omega) ?_ | refine add_in rfl rfl (by omega) ?_ | refine sub_in rfl rfl (by omega) ?_ | refine alloc_ (fun u => ?_) | refine load_rp rfl (Nat.le_of_ble_eq_true rfl) rfl ?_ | refine load_ptr rfl (by decide) rfl (Nat.le_of_ble_eq_true rfl) rfl ?_ | refine store_ptr rfl rfl (by decide) rfl rfl (Nat.le_of_ble_eq_true rfl) rfl ?_ | refine fad_ptr rfl rfl rfl ?_ | refine iaA_ptr rfl rfl rfl (by omega) rfl ?_ | refine iaS_c rfl rfl (by omega) (by assumption) rfl ?_ | refine w_rn_same rfl ?_)
        exact ih (j + 1) out _ hn (by omega) (by omega) (by rfl) (by rfl) (by rfl) (by rfl) (by rfl) (by rfl) (by rfl) (by rfl) (by rfl) (by rfl) (by rfl) (by rfl) (by rfl) (by rfl) (by rfl) hx
theorem cut_loop2 {K : Ex → PS → Prop} (i0 i1 o0 o1 : List Run) (q : Int) (hq : q = 0 ∨ q = 1) (A B : List Run) (hA : A = if q = 0 then o0 else o1) (hB : B = if q = 0 then i0 else i1) (lA : A.length ≤ 999999) (lB : B.length ≤ 999999) (gB : good B = true)
    (v0 v8 v9 : PV) (x8 x9 : Box) (u6 u7 u11 : Nat) (y11 : List Run) (hrange : ranged A) (hpA : pos A) : ∀ (rest : List Run) (j : Nat) (out : List Run) (s : PS), A.drop j = rest → j ≤ A.length → out.length ≤ j →
    s.t 0 = v0 → s.t 10 = .c (.int .i64 q) → s.t 6 = .ptr 6 u6 0 → s.bx 6 = ⟨u6, .var [encL i0, encL i1]⟩ → s.t 7 = .ptr 7 u7 0 → s.bx 7 = ⟨u7, .var [encL o0, encL o1]⟩ → s.t 8 = v8 → s.bx 8 = x8 → s.t 9 = v9 → s.bx 9 = x9 →
    s.t 11 = .osl 11 u11 0 (encE y11).length → s.bx 11 = ⟨u11, .sl 2 (encE y11)⟩ → s.t 15 = .c (.int .i64 j) → s.t 12 = .osl 12 (s.bx 12).ver 0 (encE out).length → s.bx 12 = ⟨(s.bx 12).ver, .sl 2 (encE out)⟩ →
    (∀ s' v, s'.t 0 = v0 → s'.t 10 = .c (.int .i64 q) → s'.t 6 = .ptr 6 u6 0 → s'.bx 6 = ⟨u6, .var [encL i0, encL i1]⟩ → s'.t 7 = .ptr 7 u7 0 → s'.bx 7 = ⟨u7, .var [encL o0, encL o1]⟩ → s'.t 8 = v8 → s'.bx 8 = x8 → s'.t 9 = v9 → s'.bx 9 = x9 →
      s'.t 11 = .osl 11 u11 0 (encE y11).length → s'.bx 11 = ⟨u11, .sl 2 (encE y11)⟩ → s'.t 12 = .osl 12 v 0 (encE (out ++ cut B rest)).length → s'.bx 12 = ⟨v, .sl 2 (encE (out ++ cut B rest))⟩ → K (.x 4) s') → wP (PCallG Try.prog) (.loop b101_2) s K := by
  intro rest
  induction rest with
  | nil =>
    intro j out s hd hj ho t0 t10 t6 b6 t7 b7 t8 b8 t9 b9 t11 b11 t15 t12 b12 hx
    refine w_loop ?_
    have := get_end hd hj
    subst this
    generalize (s.bx 12).ver = v12 at t12 b12
    rw [← put_same t0, ← put_same t10, ← put_same t6, ← box_same b6, ← put_same t7, ← box_same b7, ← put_same t8, ← box_same b8, ← put_same t9, ← box_same b9, ← put_same t11, ← box_same b11, ← put_same t15, ← put_same t12, ← box_same b12]
    unfold b101_2 r101_14 r101_15 r101_16 r101_17 r101_18 r101_19
    rcases hq with rfl | rfl
    · simp only [if_true] at hA
      subst hA
      repeat' (first | refine len_sl rfl (List.length_map _) ?_ | refine w_seq ?_ | refine w_ops ?_ | refine st_nil ?_ | refine th_n ?_ | refine th_x ?_ | refine w_exit ?_ | refine w_false rfl ?_ | refine mv_c rfl ?_ | refine lss_f rfl rfl (by omega) ?_ | refine load_ptr rfl (by decide) rfl (Nat.le_of_ble_eq_true rfl) rfl ?_ | refine iaA_ptr rfl rfl rfl (by omega) rfl ?_)
      exact hx _ v12 (by rfl) (by rfl) (by rfl) (by rfl) (by rfl) (by rfl) (by rfl) (by rfl) (by rfl) (by rfl) (by rfl) (by rfl) (by simp only [cut, List.append_nil]; rfl) (by simp only [cut, List.append_nil]; rfl)
    · rw [if_neg (by decide)] at hA
      subst hA
      repeat' (first | refine len_sl rfl (List.length_map _) ?_ | refine w_seq ?_ | refine w_ops ?_ | refine st_nil ?_ | refine th_n ?_ | refine th_x ?_ | refine w_exit ?_ | refine w_false rfl ?_ | refine mv_c rfl ?_ | refine lss_f rfl rfl (by omega) ?_ | refine load_ptr rfl (by decide) rfl (Nat.le_of_ble_eq_true rfl) rfl ?_ | refine iaA_ptr rfl rfl rfl (by omega) rfl ?_)
      exact hx _ v12 (by rfl) (by rfl) (by rfl) (by rfl) (by rfl) (by rfl) (by rfl) (by rfl) (by rfl) (by rfl) (by rfl) (by rfl) (by simp only [cut, List.append_nil]; rfl) (by simp only [cut, List.append_nil]; rfl)
  | cons r rest ih =>
    intro j out s hd hj ho t0 t10 t6 b6 t7 b7 t8 b8 t9 b9 t11 b11 t15 t12 b12 hx
    refine w_loop ?_
    have he := get_enc hd
    have hl := get_len hd
    have hn := get_next hd
    have hC := C_rHas B r.1 (by omega)
    rw [if_pos gB] at hC
    have hmin : (if has B r.1 < r.2 then has B r.1 else r.2) = min r.2 (has B r.1) := by split <;> omega
    have hk : (encE out).length = out.length := List.length_map _
    have z1 : ∀ q : List CV, (encE out).length + [q].length ≤ maxGrow := fun q => by rw [hk]; simp [maxGrow]; omega
    have z2 : ∀ q : Run, encE out ++ [encR q] = encE (out ++ [q]) := fun q => by simp [encE]
    have hmem : r ∈ A := by have : r ∈ A.drop j := by rw [hd]; simp
                            exact List.mem_of_mem_drop this
    have hr2 := hrange r hmem
    have hr1 := hpA r hmem
    have hh : 0 ≤ has B r.1 := by rw [has_cnt _ (good_iff.mp gB).1]; exact cnt_good gB _
    have hm0 : 0 ≤ r.2 - min r.2 (has B r.1) ∧ r.2 - min r.2 (has B r.1) ≤ 9223372036854775807 := by omega
    generalize (s.bx 12).ver = v12 at t12 b12
    rw [← put_same t0, ← put_same t10, ← put_same t6, ← box_same b6, ← put_same t7, ← box_same b7, ← put_same t8, ← box_same b8, ← put_same t9, ← box_same b9, ← put_same t11, ← box_same b11, ← put_same t15, ← put_same t12, ← box_same b12]
    unfold b101_2 r101_14 r101_15 r101_16 r101_17 r101_18 r101_19
    by_cases h : 0 < r.2 - min r.2 (has B r.1)
    · have e : out ++ cut B (r :: rest) = (out ++ [(r.1, r.2 - min r.2 (has B r.1))]) ++ cut B rest := by simp only [cut, some_, if_pos h, List.append_assoc]
      rw [e] at hx
      rcases hq with rfl | rfl
      · simp only [if_true] at hA hB
        subst hA; subst hB
        repeat' (first | refine len_sl rfl (List.length_map _) ?_ | refine call2 rfl rfl hC ?_ | refine mm_minv rfl rfl hmin ?_ | refine app_own rfl rfl rfl rfl (z1 _) (by intro e he; cases List.mem_singleton.mp he; rfl) (z2 (r.1, r.2 - min r.2 (has B r.1))) rfl (fun _ _ => ?_) | refine w_seq ?_ | refine w_ops ?_ | refine w_opsD0 rfl ?_ | refine st_nil ?_ | refine th_n ?_ | refine bk_n ?_ | refine w_block ?_ | refine w_skip ?_ | refine w_true rfl ?_ | refine mv_c rfl ?_ | refine mv_osl rfl ?_ | refine lss_t rfl rfl (by omega) ?_ | refine gtr_t rfl rfl (by omega) ?_ | refine add_in rfl rfl (by omega) ?_ | refine sub_in rfl rfl (by omega) ?_ | refine alloc_ (fun u => ?_) | refine bsl_ rfl rfl ?_ | refine load_rp rfl (Nat.le_of_ble_eq_true rfl) rfl ?_ | refine load_ptr rfl (by decide) rfl (Nat.le_of_ble_eq_true rfl) rfl ?_ | refine store_ptr rfl rfl (by decide) rfl rfl (Nat.le_of_ble_eq_true rfl) rfl ?_ | refine fad_ptr rfl rfl rfl ?_ | refine iaA_ptr rfl rfl rfl (by omega) rfl ?_ | refine iaS_c rfl rfl (by omega) (by assumption) rfl ?_ | refine w_rn rfl (by decide) rfl rfl (fun _ _ => ?_))
        exact ih (j + 1) (out ++ [(r.1, r.2 - min r.2 (has B r.1))]) _ hn (by omega) (by simp; omega) (by rfl) (by rfl) (by rfl) (by rfl) (by rfl) (by rfl) (by rfl) (by rfl) (by rfl) (by rfl) (by rfl) (by rfl) (by rfl) (by rfl) (by rfl) hx
      · rw [if_neg (by decide)] at hA hB
        subst hA; subst hB
        repeat' (first | refine len_sl rfl (List.length_map _) ?_ | refine call2 rfl rfl hC ?_ | refine mm_minv rfl rfl hmin ?_ | refine app_own rfl rfl rfl rfl (z1 _) (by intro e he; cases List.mem_singleton.mp he; rfl) (z2 (r.1, r.2 - min r.2 (has B r.1))) rfl (fun _ _ => ?_) | refine w_seq ?_ | refine w_ops ?_ | refine w_opsD0 rfl ?_ | refine st_nil ?_ | refine th_n ?_ | refine bk_n ?_ | refine w_block ?_ | refine w_skip ?_ | refine w_true rfl ?_ | refine mv_c rfl ?_ | refine mv_osl rfl ?_ | refine lss_t rfl rfl (by omega) ?_ | refine gtr_t rfl rfl (by omega) ?_ | refine add_in rfl rfl (by omega) ?_ | refine sub_in rfl rfl (by omega) ?_ | refine alloc_ (fun u => ?_) | refine bsl_ rfl rfl ?_ | refine load_rp rfl (Nat.le_of_ble_eq_true rfl) rfl ?_ | refine load_ptr rfl (by decide) rfl (Nat.le_of_ble_eq_true rfl) rfl ?_ | refine store_ptr rfl rfl (by decide) rfl rfl (Nat.le_of_ble_eq_true rfl) rfl ?_ | refine fad_ptr rfl rfl rfl ?_ | refine iaA_ptr rfl rfl rfl (by omega) rfl ?_ | refine iaS_c rfl rfl (by omega) (by assumption) rfl ?_ | refine w_rn rfl (by decide) rfl rfl (fun _ _ => ?_))
        exact ih (j + 1) (out ++ [(r.1, r.2 - min r.2 (has B r.1))]) _ hn (by omega) (by simp; omega) (by rfl) (by rfl) (by rfl) (by rfl) (by rfl) (by rfl) (by rfl) (by rfl) (by rfl) (by rfl) (by rfl) (by rfl) (by rfl) (by rfl) (by rfl) hx
    · have e : out ++ cut B (r :: rest) = out ++ cut B rest := by simp only [cut, some_, if_neg h, List.nil_append]
      rw [e] at hx
      rcases hq with rfl | rfl
      · simp only [if_true] at hA hB
        subst hA; subst hB
        repeat' (first | refine len_sl rfl (List.length_map _) ?_ | refine call2 rfl rfl hC ?_ | refine mm_minv rfl rfl hmin ?_ | refine w_seq ?_ | refine w_ops ?_ | refine w_opsD0 rfl ?_ | refine st_nil ?_ | refine th_n ?_ | refine bk_n ?_ | refine w_block ?_ | refine w_skip ?_ | refine w_true rfl ?_ | refine w_false rfl ?_ | refine mv_c rfl ?_ | refine lss_t rfl rfl (by omega) ?_ | refine gtr_f rfl rfl (by omega) ?_ | refine add_in rfl rfl (by omega) ?_ | refine sub_in rfl rfl (by omega) ?_ | refine alloc_ (fun u => ?_) | refine load_rp rfl (Nat.le_of_ble_eq_true rfl) rfl ?_ | refine load_ptr rfl (by decide) rfl (Nat.le_of_ble_eq_true rfl) rfl ?_ | refine store_ptr rfl rfl (by decide) rfl rfl (Nat.le_of_ble_eq_true rfl) rfl ?_ | refine fad_ptr rfl rfl rfl ?_ | refine iaA_ptr rfl rfl rfl (by omega) rfl ?_ | refine iaS_c rfl rfl (by omega) (by assumption) rfl ?_ | refine w_rn_same rfl ?_)
        exact ih (j + 1) out _ hn (by omega) (by omega) (by rfl) (by rfl) (by rfl) (by rfl) (by rfl) (by rfl) (by rfl) (by rfl) (by rfl) (by rfl) (by rfl) (by rfl) (by rfl) (by rfl) (by rfl) hx
      · rw [if_neg (by decide)] at hA hB
        subst hA; subst hB
        repeat' (first | refine len_sl rfl (List.length_map _) ?_ | refine call2 rfl rfl hC ?_ | refine mm_minv rfl rfl hmin ?_ | refine w_seq ?_ | refine w_ops ?_ | refine w_opsD0 rfl ?_ | refine st_nil ?_ | refine th_n ?_ | refine bk_n ?_ | refine w_block ?_ | refine w_skip ?_ | refine w_true rfl ?_ | refine w_false rfl ?_ | refine mv_c rfl ?_ | refine lss_t rfl rfl (by omega) ?_ | refine gtr_f rfl rfl (by omega) ?_ | refine add_in rfl rfl (by omega) ?_ | refine sub_in rfl rfl (by omega) ?_ | refine alloc_ (fun u => ?_) | refine load_rp rfl (Nat.le_of_ble_eq_true rfl) rfl ?_ | refine load_ptr rfl (by decide) rfl (Nat.le_of_ble_eq_true rfl) rfl ?_ | refine store_ptr rfl rfl (by decide) rfl rfl (Nat.le_of_ble_eq_true rfl) rfl ?_ | refine fad_ptr rfl rfl rfl ?_ | refine iaA_ptr rfl rfl rfl (by omega) rfl ?_ | refine iaS_c rfl rfl (by omega) (by assumption) rfl ?_ | refine w_rn_same rfl ?_)
        exact ih (j + 1) out _ hn (by omega) (by omega) (by rfl) (by rfl) (by rfl) (by rfl) (by rfl) (by rfl) (by rfl) (by rfl) (by rfl) (by rfl) (by rfl) (by rfl) (by rfl) (by rfl) (by rfl) hx
theorem ranged_cut {a b : List Run} (ha : asc a) (pa : pos a) (hb : asc b) (pb : pos b) (ra : ranged a) : ranged (cut b a) := by
  intro q hq
  obtain ⟨r, hr, e1, e2⟩ := (cut_facts hb pb a ha pa).2.2.2 q hq
  have h1 := (cut_facts hb pb a ha pa).2.1 q hq
  have h2 := ra r hr
  rw [e1]
  exact ⟨h2.1, by omega⟩
theorem mkD_1 {m n : Int} {i0 i1 o0 o1 j1 q1 : List Run} (hm : m ≠ 2) : mkD m n i0 i1 o0 o1 = mkD m n i0 j1 o0 q1 := by
  unfold mkD; simp only [hm, if_false, false_implies]
theorem C_rdMade (m n : Int) (i0 i1 o0 o1 : List Run) (hp : preD m n i0 i1 o0 o1) (hn : I64 n) (l0 : i0.length ≤ 999999) (l1 : i1.length ≤ 999999) (k0 : o0.length ≤ 999999) (k1 : o1.length ≤ 999999)
    (r0 : ranged i0) (r1 : ranged i1) (q0 : ranged o0) (q1 : ranged o1) :
    PCallG Try.prog 101 [.c (.int .i64 m), .c (.int .i64 n), .c (.agg [encL i0, encL i1]), .c (.agg [encL o0, encL o1])] (.c (rdV (mkD m n i0 i1 o0 o1))) [] := by
  obtain ⟨hm, ⟨gi, go, hs⟩, h2⟩ := id hp
  refine pcallF Try.func101 c101 rfl ?_
  obtain ⟨a1, a2, a3⟩ := good_iff.mp gi
  obtain ⟨b1, b2, b3⟩ := good_iff.mp go
  have gA := (good_cut gi go).1
  have gB := (good_cut go gi).1
  have rA := ranged_cut a1 a2 b1 b2 r0
  have rB := ranged_cut b1 b2 a1 a2 q0
  have lA := cut_len o0 i0
  have lB := cut_len i0 o0
  obtain ⟨w1, w2⟩ := C_rdWide (cut o0 i0) (cut i0 o0) (by omega) (by omega) rA rB gA gB
  rw [(cut_tot gi go).2] at w1 w2
  unfold p101 r101_0 r101_1 r101_2 r101_26 r101_27 r101_28
  repeat' (first | refine w_seq ?_ | refine w_ops ?_ | refine st_nil ?_ | refine th_n ?_ | refine w_block ?_ | refine mv_c rfl ?_ | refine alloc_ (fun u => ?_) | refine box_ rfl rfl rfl (fun u => ?_) | refine build_ rfl rfl ?_ | refine store_ptr rfl rfl (by decide) rfl rfl (Nat.le_of_ble_eq_true rfl) rfl ?_)
  refine w_loop ?_
  unfold b101_0 r101_3 r101_4 r101_5 r101_6 r101_13 r101_20 r101_21 r101_22 r101_23 r101_24 r101_25
  repeat' (first | refine w_seq ?_ | refine w_ops ?_ | refine st_nil ?_ | refine th_n ?_ | refine w_block ?_ | refine w_skip ?_ | refine w_true rfl ?_ | refine mv_c rfl ?_ | refine lss_t rfl rfl (by omega) ?_ | refine own0_ (fun u => ?_))
  refine cut_loop1 i0 i1 o0 o1 0 (.inl rfl) i0 o0 rfl rfl l0 k0 go _ _ _ _ _ _ _ _ r0 a2 i0 0 [] _ rfl (by omega) (by simp) (by rfl) (by rfl) (by rfl) (by rfl) (by rfl) (by rfl) (by rfl) (by rfl) (by rfl) (by rfl) (by rfl) (by rfl) (by rfl) (by rfl) (by rfl) ?_
  intro s' v t0 t10 t6 b6 t7 b7 t8 b8 t9 b9 t12 b12 t11 b11
  rw [List.nil_append] at t11 b11
  rw [← put_same t0, ← put_same t10, ← put_same t6, ← box_same b6, ← put_same t7, ← box_same b7, ← put_same t8, ← box_same b8, ← put_same t9, ← box_same b9, ← put_same t12, ← box_same b12, ← put_same t11, ← box_same b11]
  repeat' (first | refine w_seq ?_ | refine w_ops ?_ | refine st_nil ?_ | refine th_n ?_ | refine bk_x ?_ | refine w_block ?_ | refine mv_c rfl ?_)
  refine cut_loop2 i0 i1 o0 o1 0 (.inl rfl) o0 i0 rfl rfl k0 l0 gi _ _ _ _ _ _ _ _ (cut o0 i0) q0 b2 o0 0 [] _ rfl (by omega) (by simp) (by rfl) (by rfl) (by rfl) (by rfl) (by rfl) (by rfl) (by rfl) (by rfl) (by rfl) (by rfl) (by rfl) (by rfl) (by rfl) (by rfl) (by rfl) ?_
  intro s' v t0 t10 t6 b6 t7 b7 t8 b8 t9 b9 t11 b11 t12 b12
  rw [List.nil_append] at t12 b12
  rw [← put_same t0, ← put_same t10, ← put_same t6, ← box_same b6, ← put_same t7, ← box_same b7, ← put_same t8, ← box_same b8, ← put_same t9, ← box_same b9, ← put_same t11, ← box_same b11, ← put_same t12, ← box_same b12]
  by_cases f0 : I64 (wsum i0 - wsum o0)
  · rw [if_pos f0] at w2
    by_cases hm2 : m = 2
    · obtain ⟨gi', go', hs'⟩ := h2 hm2
      obtain ⟨c1, c2, c3⟩ := good_iff.mp gi'
      obtain ⟨d1, d2, d3⟩ := good_iff.mp go'
      have gA' := (good_cut gi' go').1
      have gB' := (good_cut go' gi').1
      have rA' := ranged_cut c1 c2 d1 d2 r1
      have rB' := ranged_cut d1 d2 c1 c2 q1
      have lA' := cut_len o1 i1
      have lB' := cut_len i1 o1
      obtain ⟨w3, w4⟩ := C_rdWide (cut o1 i1) (cut i1 o1) (by omega) (by omega) rA' rB' gA' gB'
      rw [(cut_tot gi' go').2] at w3 w4
      repeat' (first | refine call2 rfl rfl w1 ?_ | refine call1 rfl w2 ?_ | refine w_seq ?_ | refine w_ops ?_ | refine st_nil ?_ | refine th_n ?_ | refine bk_n ?_ | refine bk_x ?_ | refine w_skip ?_ | refine w_false rfl ?_ | refine mv_c rfl ?_ | refine not_ rfl ?_ | refine add_in rfl rfl (by omega) ?_ | refine store_ptr rfl rfl (by decide) rfl rfl (Nat.le_of_ble_eq_true rfl) rfl ?_ | refine fad_ptr rfl rfl rfl ?_ | refine iaA_ptr rfl rfl rfl (by omega) rfl ?_ | refine ext_ rfl rfl ?_ | refine w_fz_osl rfl rfl rfl (fun u => ?_))
      refine w_loop ?_
      repeat' (first | refine w_seq ?_ | refine w_ops ?_ | refine st_nil ?_ | refine th_n ?_ | refine w_block ?_ | refine w_skip ?_ | refine w_true rfl ?_ | refine mv_c rfl ?_ | refine lss_t rfl rfl (by omega) ?_ | refine own0_ (fun u => ?_))
      refine cut_loop1 i0 i1 o0 o1 1 (.inr rfl) i1 o1 rfl rfl l1 k1 go' _ _ _ _ _ _ _ _ r1 c2 i1 0 [] _ rfl (by omega) (by simp) (by rfl) (by rfl) (by rfl) (by rfl) (by rfl) (by rfl) (by rfl) (by rfl) (by rfl) (by rfl) (by rfl) (by rfl) (by rfl) (by rfl) (by rfl) ?_
      intro s' v t0 t10 t6 b6 t7 b7 t8 b8 t9 b9 t12 b12 t11 b11
      rw [List.nil_append] at t11 b11
      rw [← put_same t0, ← put_same t10, ← put_same t6, ← box_same b6, ← put_same t7, ← box_same b7, ← put_same t8, ← box_same b8, ← put_same t9, ← box_same b9, ← put_same t12, ← box_same b12, ← put_same t11, ← box_same b11]
      repeat' (first | refine w_seq ?_ | refine w_ops ?_ | refine st_nil ?_ | refine th_n ?_ | refine bk_x ?_ | refine w_block ?_ | refine mv_c rfl ?_)
      refine cut_loop2 i0 i1 o0 o1 1 (.inr rfl) o1 i1 rfl rfl k1 l1 gi' _ _ _ _ _ _ _ _ (cut o1 i1) q1 d2 o1 0 [] _ rfl (by omega) (by simp) (by rfl) (by rfl) (by rfl) (by rfl) (by rfl) (by rfl) (by rfl) (by rfl) (by rfl) (by rfl) (by rfl) (by rfl) (by rfl) (by rfl) (by rfl) ?_
      intro s' v t0 t10 t6 b6 t7 b7 t8 b8 t9 b9 t11 b11 t12 b12
      rw [List.nil_append] at t12 b12
      rw [← put_same t0, ← put_same t10, ← put_same t6, ← box_same b6, ← put_same t7, ← box_same b7, ← put_same t8, ← box_same b8, ← put_same t9, ← box_same b9, ← put_same t11, ← box_same b11, ← put_same t12, ← box_same b12]
      by_cases f1 : I64 (wsum i1 - wsum o1)
      · rw [if_pos f1] at w4
        have hin : inD 999999 ⟨n, wsum i0 - wsum o0, wsum i1 - wsum o1, cut o0 i0, cut o1 i1, cut i0 o0, cut i1 o1⟩ := ⟨hn, f0, f1, ⟨rA, by show (cut o0 i0).length ≤ _; omega⟩, ⟨rA', by show (cut o1 i1).length ≤ _; omega⟩, ⟨rB, by show (cut i0 o0).length ≤ _; omega⟩, ⟨rB', by show (cut i1 o1).length ≤ _; omega⟩⟩
        have g5 := C_rdGood m _ hin
        unfold encDelta encD at g5
        have e0 : mkD m n i0 i1 o0 o1 = if goodD m ⟨n, wsum i0 - wsum o0, wsum i1 - wsum o1, cut o0 i0, cut o1 i1, cut i0 o0, cut i1 o1⟩ = true then (⟨n, wsum i0 - wsum o0, wsum i1 - wsum o1, cut o0 i0, cut o1 i1, cut i0 o0, cut i1 o1⟩, true) else (zeroD, false) := by
          by_cases hr : -1099511627776 ≤ n ∧ n ≤ 1099511627776
          · have e : mkD m n i0 i1 o0 o1 = (⟨n, wsum i0 - wsum o0, wsum i1 - wsum o1, cut o0 i0, cut o1 i1, cut i0 o0, cut i1 o1⟩, true) := by
              unfold mkD; rw [if_pos ⟨f0, fun _ => f1, hr⟩]; simp only [if_pos hm2]
            have := mkD_good hp (by rw [e])
            rw [e] at this ⊢
            rw [if_pos this]
          · rw [if_neg (fun h => hr (goodD_iff.mp h).2.1)]
            unfold mkD; rw [if_neg (fun h => hr h.2.2)]
        rw [e0]
        generalize goodD m ⟨n, wsum i0 - wsum o0, wsum i1 - wsum o1, cut o0 i0, cut o1 i1, cut i0 o0, cut i1 o1⟩ = g at g5
        generalize wsum i0 - wsum o0 = z0 at *
        generalize wsum i1 - wsum o1 = z1 at *
        repeat' (first | refine call2 rfl rfl w3 ?_ | refine call1 rfl w4 ?_ | refine w_seq ?_ | refine w_ops ?_ | refine st_nil ?_ | refine th_n ?_ | refine bk_n ?_ | refine bk_x ?_ | refine w_skip ?_ | refine w_false rfl ?_ | refine mv_c rfl ?_ | refine not_ rfl ?_ | refine add_in rfl rfl (by omega) ?_ | refine store_ptr rfl rfl (by decide) rfl rfl (Nat.le_of_ble_eq_true rfl) rfl ?_ | refine fad_ptr rfl rfl rfl ?_ | refine iaA_ptr rfl rfl rfl (by omega) rfl ?_ | refine ext_ rfl rfl ?_ | refine w_fz_osl rfl rfl rfl (fun u => ?_))
        refine w_loop ?_
        cases g <;>
        repeat' (first | refine call2 rfl rfl g5 ?_ | refine w_seq ?_ | refine w_ops ?_ | refine st_nil ?_ | refine th_n ?_ | refine th_x ?_ | refine th_r ?_ | refine bk_x ?_ | refine w_skip ?_ | refine w_exit ?_ | refine w_ret ?_ | refine w_true rfl ?_ | refine w_false rfl ?_ | refine mv_c rfl ?_ | refine lss_f rfl rfl (by omega) ?_ | refine not_ rfl ?_ | refine build_ rfl rfl ?_ | refine load_ptr rfl (by decide) rfl (Nat.le_of_ble_eq_true rfl) rfl ?_ | refine store_ptr rfl rfl (by decide) rfl rfl (Nat.le_of_ble_eq_true rfl) rfl ?_)
        all_goals exact fin_r (rv_cell rfl rfl rfl rfl rv_nil) rfl
      · rw [if_neg f1] at w4
        rw [show mkD m n i0 i1 o0 o1 = (zeroD, false) by unfold mkD; rw [if_neg (fun h => f1 (h.2.1 hm2))]]
        repeat' (first | refine call2 rfl rfl w3 ?_ | refine call1 rfl w4 ?_ | refine w_seq ?_ | refine w_ops ?_ | refine st_nil ?_ | refine th_n ?_ | refine th_r ?_ | refine bk_r ?_ | refine bk_x ?_ | refine w_ret ?_ | refine w_true rfl ?_ | refine mv_c rfl ?_ | refine not_ rfl ?_ | refine build_ rfl rfl ?_ | refine store_ptr rfl rfl (by decide) rfl rfl (Nat.le_of_ble_eq_true rfl) rfl ?_ | refine ext_ rfl rfl ?_ | refine w_fz_osl rfl rfl rfl (fun u => ?_))
        exact fin_r (rv_cell rfl rfl rfl rfl rv_nil) rfl
    · have hin : inD 999999 ⟨n, wsum i0 - wsum o0, 0, cut o0 i0, [], cut i0 o0, []⟩ := ⟨hn, f0, (by decide : in64 0), ⟨rA, by show (cut o0 i0).length ≤ _; omega⟩, ⟨fun q hq => by simp at hq, by simp⟩, ⟨rB, by show (cut i0 o0).length ≤ _; omega⟩, ⟨fun q hq => by simp at hq, by simp⟩⟩
      have g5 := C_rdGood m _ hin
      unfold encDelta encD at g5
      have e0 : mkD m n i0 i1 o0 o1 = if goodD m ⟨n, wsum i0 - wsum o0, 0, cut o0 i0, [], cut i0 o0, []⟩ = true then (⟨n, wsum i0 - wsum o0, 0, cut o0 i0, [], cut i0 o0, []⟩, true) else (zeroD, false) := by
        by_cases hr : -1099511627776 ≤ n ∧ n ≤ 1099511627776
        · have e : mkD m n i0 i1 o0 o1 = (⟨n, wsum i0 - wsum o0, 0, cut o0 i0, [], cut i0 o0, []⟩, true) := by
            unfold mkD; rw [if_pos ⟨f0, fun h => absurd h hm2, hr⟩]; simp only [if_neg hm2]
          have := mkD_good hp (by rw [e])
          rw [e] at this ⊢
          rw [if_pos this]
        · rw [if_neg (fun h => hr (goodD_iff.mp h).2.1)]
          unfold mkD; rw [if_neg (fun h => hr h.2.2)]
      rw [e0]
      generalize goodD m ⟨n, wsum i0 - wsum o0, 0, cut o0 i0, [], cut i0 o0, []⟩ = g at g5
      generalize wsum i0 - wsum o0 = z0 at *
      repeat' (first | refine call2 rfl rfl w1 ?_ | refine call1 rfl w2 ?_ | refine w_seq ?_ | refine w_ops ?_ | refine st_nil ?_ | refine th_n ?_ | refine bk_n ?_ | refine bk_x ?_ | refine w_skip ?_ | refine w_false rfl ?_ | refine mv_c rfl ?_ | refine not_ rfl ?_ | refine add_in rfl rfl (by omega) ?_ | refine store_ptr rfl rfl (by decide) rfl rfl (Nat.le_of_ble_eq_true rfl) rfl ?_ | refine fad_ptr rfl rfl rfl ?_ | refine iaA_ptr rfl rfl rfl (by omega) rfl ?_ | refine ext_ rfl rfl ?_ | refine w_fz_osl rfl rfl rfl (fun u => ?_))
      refine w_loop ?_
      cases g <;>
      repeat' (first | refine call2 rfl rfl g5 ?_ | refine w_seq ?_ | refine w_ops ?_ | refine st_nil ?_ | refine th_n ?_ | refine th_x ?_ | refine th_r ?_ | refine bk_x ?_ | refine w_skip ?_ | refine w_exit ?_ | refine w_ret ?_ | refine w_true rfl ?_ | refine w_false rfl ?_ | refine mv_c rfl ?_ | refine lss_f rfl rfl (by omega) ?_ | refine not_ rfl ?_ | refine build_ rfl rfl ?_ | refine load_ptr rfl (by decide) rfl (Nat.le_of_ble_eq_true rfl) rfl ?_ | refine store_ptr rfl rfl (by decide) rfl rfl (Nat.le_of_ble_eq_true rfl) rfl ?_)
      all_goals exact fin_r (rv_cell rfl rfl rfl rfl rv_nil) rfl
  · rw [if_neg f0] at w2
    rw [show mkD m n i0 i1 o0 o1 = (zeroD, false) by unfold mkD; rw [if_neg (fun h => f0 h.1)]]
    repeat' (first | refine call2 rfl rfl w1 ?_ | refine call1 rfl w2 ?_ | refine w_seq ?_ | refine w_ops ?_ | refine st_nil ?_ | refine th_n ?_ | refine th_r ?_ | refine bk_r ?_ | refine bk_x ?_ | refine w_ret ?_ | refine w_true rfl ?_ | refine mv_c rfl ?_ | refine not_ rfl ?_ | refine build_ rfl rfl ?_ | refine store_ptr rfl rfl (by decide) rfl rfl (Nat.le_of_ble_eq_true rfl) rfl ?_ | refine ext_ rfl rfl ?_ | refine w_fz_osl rfl rfl rfl (fun u => ?_))
    exact fin_r (rv_cell rfl rfl rfl rfl rv_nil) rfl
end Go.Proofs.Ytcmejdkjfekoeaa

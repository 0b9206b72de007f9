/- Part of the proof of CellMean, CellOrder, CellJoins, CellLines, CellTells: lemmas. -/
import Derived.Test.YtcmejdkjfekoeaaCellS11
set_option linter.unusedVariables false
set_option linter.unusedSimpArgs false
namespace Go.Proofs.Ytcmejdkjfekoeaa
open Go.Pl Go.Bag
set_option maxHeartbeats 16000000
set_option maxRecDepth 100000
theorem totI_sum9 : ∀ l : List Int, totI l = sumI l
  | [] => rfl
  | a :: l => by simp only [totI, sumI, totI_sum9 l]
theorem lines_in {C : CallP} {K : Ex → PS → Prop} (l : List RowS) (hlen : l.length ≤ 60) (b : Bool) (v7 v9 v10 v11 v12 : PV) (x10 x11 : Box) : ∀ (rest : List RowS) (k : Nat) (out : List Int) (lo hi : Int) (s : PS), l.drop k = rest → k ≤ l.length → out.length ≤ k →
    s.t 1 = .c (encRows l) → s.t 13 = .c (.int .i64 (if b then 1 else 0)) → s.t 14 = .osl 14 (s.bx 14).ver 0 (out.map encI).length → s.bx 14 = ⟨(s.bx 14).ver, .sl 1 (out.map encI)⟩ → s.t 15 = .c (.int .i64 lo) → s.t 16 = .c (.int .i64 hi) → s.t 17 = .c (.int .i64 k) →
    s.t 7 = v7 → s.t 9 = v9 → s.t 10 = v10 → s.t 11 = v11 → s.t 12 = v12 → s.bx 10 = x10 → s.bx 11 = x11 →
    (∀ s' v, s'.t 1 = .c (encRows l) → s'.t 13 = .c (.int .i64 (if b then 1 else 0)) → s'.t 14 = .osl 14 v 0 ((out ++ rest.map (mv (if b then 1 else 0))).map encI).length → s'.bx 14 = ⟨v, .sl 1 ((out ++ rest.map (mv (if b then 1 else 0))).map encI)⟩ → s'.t 15 = .c (.int .i64 (loF lo (rest.map (mv (if b then 1 else 0))))) → s'.t 16 = .c (.int .i64 (hiF hi (rest.map (mv (if b then 1 else 0))))) →
      s'.t 7 = v7 → s'.t 9 = v9 → s'.t 10 = v10 → s'.t 11 = v11 → s'.t 12 = v12 → s'.bx 10 = x10 → s'.bx 11 = x11 → K (.x 2) s') → wP C (.loop b10_1) s K := by
  intro rest
  induction rest with
  | nil =>
    intro k out lo hi s hd hk ho t1 t13 t14 b14 t15 t16 t17 t7 t9 t10 t11 t12 b10 b11 hx
    refine w_loop ?_
    have hk' := drop_end hd hk
    subst hk'
    generalize (s.bx 14).ver = v14 at t14 b14
    rw [← put_same t1, ← put_same t13, ← put_same t14, ← put_same t15, ← put_same t16, ← put_same t17, ← put_same t7, ← put_same t9, ← put_same t10, ← put_same t11, ← put_same t12, ← box_same b14, ← box_same b10, ← box_same b11]
    unfold b10_1 r10_16 r10_17 r10_18 r10_19
    repeat' (first
      | refine len_sl rfl (List.length_map _) ?_
      | refine w_seq ?_
      | refine w_ops ?_
      | refine st_nil ?_
      | refine th_n ?_
      | refine th_x ?_
      | refine w_exit ?_
      | refine w_false rfl ?_
      | refine mv_c rfl ?_
      | refine lss_f rfl rfl (by omega) ?_)
    exact hx _ _ rfl rfl (by simp only [List.map_nil, List.append_nil]; rfl) (by simp only [List.map_nil, List.append_nil]; rfl) rfl rfl rfl rfl rfl rfl rfl rfl rfl
  | cons r rest ih =>
    intro k out lo hi s hd hk ho t1 t13 t14 b14 t15 t16 t17 t7 t9 t10 t11 t12 b10 b11 hx
    refine w_loop ?_
    have he := get_row hd
    have hkl := drop_len hd
    have hn := drop_next hd
    have z1 : ∀ q : List CV, (out.map encI).length + [q].length ≤ maxGrow := fun q => by simp [maxGrow]; omega
    have e : ∀ a : Int, out.map encI ++ [[CV.int .i64 a]] = (out ++ [a]).map encI := fun a => by simp [encI]
    generalize (s.bx 14).ver = v14 at t14 b14
    cases b with
    | false =>
      simp only [Bool.false_eq_true, if_false] at t13 hx ih
      rw [← put_same t1, ← put_same t13, ← put_same t14, ← put_same t15, ← put_same t16, ← put_same t17, ← put_same t7, ← put_same t9, ← put_same t10, ← put_same t11, ← put_same t12, ← box_same b14, ← box_same b10, ← box_same b11]
      rw [show out ++ (r :: rest).map (mv 0) = (out ++ [r.m0]) ++ rest.map (mv 0) by simp [mv]] at hx
      unfold b10_1 r10_16 r10_17 r10_18 r10_19
      repeat' (first
        | refine len_sl rfl (List.length_map _) ?_
        | refine app_own rfl rfl rfl rfl (z1 _) (by intro e he; cases List.mem_singleton.mp he; rfl) (e _) rfl (fun _ _ => ?_)
        | refine w_seq ?_
        | refine w_ops ?_
        | refine w_opsD0 rfl ?_
        | refine st_nil ?_
        | refine th_n ?_
        | refine bk_n ?_
        | refine w_block ?_
        | refine w_skip ?_
        | refine w_true rfl ?_
        | refine mv_c rfl ?_
        | refine mv_osl rfl ?_
        | refine lss_t rfl rfl (by omega) ?_
        | refine add_in rfl rfl (by omega) ?_
        | refine bsl_ rfl rfl ?_
        | refine load_rp rfl (Nat.le_of_ble_eq_true rfl) rfl ?_
        | refine fad_rp rfl (Nat.le_of_ble_eq_true rfl) rfl ?_
        | refine iaA_rp rfl rfl (by omega) (Nat.le_of_ble_eq_true rfl) rfl ?_
        | refine iaS_c rfl rfl (by omega) (by assumption) rfl ?_
        | refine w_rn rfl (by decide) rfl rfl (fun _ _ => ?_)
        | refine mm_min rfl rfl ?_
        | refine mm_max rfl rfl ?_)
      exact ih (k + 1) (out ++ [r.m0]) _ _ _ hn (by omega) (by simp; omega) (by rfl) (by rfl) (by rfl) (by rfl) (by rfl) (by rfl) (by rfl) (by rfl) (by rfl) (by rfl) (by rfl) (by rfl) (by rfl) (by rfl) hx
    | true =>
      simp only [if_true] at t13 hx ih
      rw [← put_same t1, ← put_same t13, ← put_same t14, ← put_same t15, ← put_same t16, ← put_same t17, ← put_same t7, ← put_same t9, ← put_same t10, ← put_same t11, ← put_same t12, ← box_same b14, ← box_same b10, ← box_same b11]
      rw [show out ++ (r :: rest).map (mv 1) = (out ++ [r.m1]) ++ rest.map (mv 1) by simp [mv]] at hx
      unfold b10_1 r10_16 r10_17 r10_18 r10_19
      repeat' (first
        | refine len_sl rfl (List.length_map _) ?_
        | refine app_own rfl rfl rfl rfl (z1 _) (by intro e he; cases List.mem_singleton.mp he; rfl) (e _) rfl (fun _ _ => ?_)
        | refine w_seq ?_
        | refine w_ops ?_
        | refine w_opsD0 rfl ?_
        | refine st_nil ?_
        | refine th_n ?_
        | refine bk_n ?_
        | refine w_block ?_
        | refine w_skip ?_
        | refine w_true rfl ?_
        | refine mv_c rfl ?_
        | refine mv_osl rfl ?_
        | refine lss_t rfl rfl (by omega) ?_
        | refine add_in rfl rfl (by omega) ?_
        | refine bsl_ rfl rfl ?_
        | refine load_rp rfl (Nat.le_of_ble_eq_true rfl) rfl ?_
        | refine fad_rp rfl (Nat.le_of_ble_eq_true rfl) rfl ?_
        | refine iaA_rp rfl rfl (by omega) (Nat.le_of_ble_eq_true rfl) rfl ?_
        | refine iaS_c rfl rfl (by omega) (by assumption) rfl ?_
        | refine w_rn rfl (by decide) rfl rfl (fun _ _ => ?_)
        | refine mm_min rfl rfl ?_
        | refine mm_max rfl rfl ?_)
      exact ih (k + 1) (out ++ [r.m1]) _ _ _ hn (by omega) (by simp; omega) (by rfl) (by rfl) (by rfl) (by rfl) (by rfl) (by rfl) (by rfl) (by rfl) (by rfl) (by rfl) (by rfl) (by rfl) (by rfl) (by rfl) hx
theorem eqLn (x : LineS) : eqC true [LK.i, LK.i, LK.i, LK.i, LK.i, LK.i, LK.i, LK.i, LK.i, LK.i, LK.i] (.agg (encLn x)) (.agg (encLn x)) = some true := by
  simp [eqC, encLn, shEq]
theorem lo_ofL (x : Int) (l : List Int) : lo_ (ofL (x :: l)) = loF x (x :: l) := by
  obtain ⟨r, k, e1, e2⟩ := ofL_head x l
  rw [← e2, e1]; rfl
theorem hi_ofL (x : Int) (l : List Int) : hi_ (ofL (x :: l)) = hiF x (x :: l) := by
  obtain ⟨r, k, e1, e2⟩ := ofL_last x l
  rw [← e2, e1]; simp [hi_]
/-- the line of the cell of rows -/
theorem lineC_ofC {m : Int} (hm : 1 ≤ m ∧ m ≤ 2) (p : Go.Bag.Place) (r : RowS) (l : List RowS) (hl : (r :: l).length ≤ 1000) :
    lineC m p (ofC m (r :: l)).1 = if fitsC m (r :: l) then ⟨p.p0, p.p1, p.p2, p.p3, (r :: l).length, sumI ((r :: l).map (mv 0)), if m = 2 then sumI ((r :: l).map (mv 1)) else 0, loF (mv 0 r) ((r :: l).map (mv 0)), if m = 2 then loF (mv 1 r) ((r :: l).map (mv 1)) else 0, hiF (mv 0 r) ((r :: l).map (mv 0)), if m = 2 then hiF (mv 1 r) ((r :: l).map (mv 1)) else 0⟩ else zeroLn := by
  cases h : (ofC m (r :: l)).2 with
  | false =>
    rw [if_neg (fun hf => by have := (ofC_ok hm).mpr ⟨by simp, hf⟩; rw [h] at this; cases this), ofC_no h]
    have : goodC m zeroC = false := by rw [Bool.eq_false_iff]; intro hg; have := (goodC_iff.mp hg).2.1.1; simp [zeroC] at this
    simp [lineC, this]
  | true =>
    have hg := good_ofC hl h
    rw [if_pos ((ofC_ok hm).mp h).2]
    unfold lineC
    rw [if_pos hg, ofC_eq h, mv0, mv1]
    by_cases hm2 : m = 2
    · simp only [if_pos hm2, List.map_cons, lo_ofL, hi_ofL, List.length_cons]
    · simp only [if_neg hm2, List.map_cons, lo_ofL, hi_ofL, List.length_cons]
theorem C_CellLines (two : Bool) (l : List RowS) (p : Go.Bag.Place) (rl : ∀ r ∈ l, inR r) (hl : l.length ≤ 9223372036854775807) : PCallG Try.prog 10 [.c (.bool two), .c (encRows l), .c (.agg (encP p))] (.c (.bool true)) [] := by
  have hw := C_wakes9
  have c0 := C_many two
  have hm := manyI_in two
  generalize manyI two = m at c0 hm
  have lel : (l.map encRow).length = l.length := List.length_map _
  obtain ⟨p0, p1, p2, p3⟩ := p
  show PCallG _ 10 [.c (.bool two), .c (encRows l), .c (.agg [.int .u8 p0, .int .u8 p1, .int .u8 p2, .int .u8 p3])] _ _
  refine pcallF Try.func10 c10 rfl ?_
  unfold p10 r10_0 r10_1 r10_2 r10_3 r10_4 r10_5 r10_6 r10_7 r10_8 r10_9 r10_10 r10_23 r10_24 r10_25
  by_cases h1 : l.length ≤ 60
  · have c1 := C_cOf m l (by omega) rl
    have ia := inC_ofC (m := m) (l := l) (by omega) rl
    have c2 := C_cLine m ⟨p0, p1, p2, p3⟩ (ofC m l).1 (inC_up (by decide) ia)
    cases l with
    | nil =>
      have e0 : ofC m [] = (zeroC, false) := by simp [ofC]
      rw [e0] at c1 c2
      have e1 : lineC m ⟨p0, p1, p2, p3⟩ zeroC = zeroLn := by
        have : goodC m zeroC = false := by rw [Bool.eq_false_iff]; intro hg; have := (goodC_iff.mp hg).2.1.1; simp [zeroC] at this
        simp [lineC, this]
      rw [e1] at c2
      have e2 := eqLn zeroLn
      repeat' (first
        | refine len_sl (es := []) rfl rfl ?_
        | refine call1 rfl c0 ?_
        | refine call2 rfl rfl c1 ?_
        | refine call3 rfl rfl rfl c2 ?_
        | refine call0 hw ?_
        | refine eqs_t rfl rfl e2 ?_
        | refine w_seq ?_
        | refine w_ops ?_
        | refine st_nil ?_
        | refine th_n ?_
        | refine th_r ?_
        | refine w_skip ?_
        | refine w_ret ?_
        | refine w_true rfl ?_
        | refine w_false rfl ?_
        | refine g_yes rfl ?_
        | refine mv_c rfl ?_
        | refine pick_t rfl rfl ?_
        | refine gtr_f rfl rfl (by omega) ?_
        | refine eqd_ rfl rfl ?_
        | refine not_ rfl ?_
        | refine alloc_ (fun u => ?_)
        | refine box_ rfl rfl rfl (fun u => ?_)
        | refine build_ rfl rfl ?_
        | refine load_ptr rfl (by decide) rfl (Nat.le_of_ble_eq_true rfl) rfl ?_
        | refine store_ptr rfl rfl (by decide) rfl rfl (Nat.le_of_ble_eq_true rfl) rfl ?_
        | refine ext_ rfl rfl ?_)
      exact fin_r rfl rfl
    | cons r0 l' =>
      rw [lineC_ofC hm _ r0 l' (by omega)] at c2
      have hok := ofC_ok (m := m) hm (l := r0 :: l')
      have g0 : ((r0 :: l').map encRow)[(0 : Int).toNat]? = some (encRow r0) := rfl
      have hr0 := rl r0 (by simp)
      have t0 := C_Total ((r0 :: l').map (mv 0)) (by simp at h1 ⊢; omega) (fun a ha => by obtain ⟨r, hr', rfl⟩ := List.mem_map.mp ha; rw [mv0]; exact (rl r hr').1)
      have t1 := C_Total ((r0 :: l').map (mv 1)) (by simp at h1 ⊢; omega) (fun a ha => by obtain ⟨r, hr', rfl⟩ := List.mem_map.mp ha; rw [mv1]; exact (rl r hr').2)
      unfold totB at t0 t1
      rw [totI_sum9] at t0 t1
      have hfit : fitsC m (r0 :: l') ↔ I64 (sumI ((r0 :: l').map (mv 0))) ∧ (m = 2 → I64 (sumI ((r0 :: l').map (mv 1)))) := by
        unfold fitsC; rw [mv0, mv1]; exact Iff.rfl
      have n1 : ∀ q : Bool, eqC false [LK.b] (CV.bool q) (CV.bool q) = some true := fun q => by simp [eqC, shEq]
      have hpos : 0 < (r0 :: l').length := by simp
      have e00 : mv 0 r0 = r0.m0 := by simp [mv]
      have e01 : mv 1 r0 = r0.m1 := by simp [mv]
      rw [e00, e01] at c2
      generalize hL : r0 :: l' = l at *
      generalize hS0 : sumI (l.map (mv 0)) = S0 at *
      generalize hS1 : sumI (l.map (mv 1)) = S1 at *
      have hrun : ∀ (fits : Bool) (y : LineS), fits = true ∧ fitsC m l ∧ lineC m ⟨p0, p1, p2, p3⟩ (ofC m l).1 = y ∨ True := fun _ _ => .inr trivial
      by_cases hm2 : m = 2
      · by_cases f0 : I64 S0
        · rw [if_pos f0] at t0
          by_cases f1 : I64 S1
          · rw [if_pos f1] at t1
            have hF : fitsC m l := hfit.mpr ⟨f0, fun _ => f1⟩
            have hK : (ofC m l).2 = true := hok.mpr ⟨by rw [← hL]; simp, hF⟩
            rw [if_pos hF] at c2
            simp only [if_pos hm2] at c2
            rw [hK] at c1
            have e2 := eqLn ⟨p0, p1, p2, p3, l.length, S0, S1, loF r0.m0 (l.map (mv 0)), loF r0.m1 (l.map (mv 1)), hiF r0.m0 (l.map (mv 0)), hiF r0.m1 (l.map (mv 1))⟩
            generalize (ofC m l).1 = z at *
            repeat' (first
              | refine len_sl rfl lel ?_
              | refine call1 rfl c0 ?_
              | refine call2 rfl rfl c1 ?_
              | refine call3 rfl rfl rfl c2 ?_
              | refine w_seq ?_
              | refine w_ops ?_
              | refine st_nil ?_
              | refine th_n ?_
              | refine w_block ?_
              | refine w_skip ?_
              | refine w_false rfl ?_
              | refine mv_c rfl ?_
              | refine gtr_f rfl rfl (by omega) ?_
              | refine eql_f rfl rfl (by omega) ?_
              | refine alloc_ (fun u => ?_)
              | refine box_ rfl rfl rfl (fun u => ?_)
              | refine build_ rfl rfl ?_
              | refine load_ptr rfl (by decide) rfl (Nat.le_of_ble_eq_true rfl) rfl ?_
              | refine store_ptr rfl rfl (by decide) rfl rfl (Nat.le_of_ble_eq_true rfl) rfl ?_
              | refine ext_ rfl rfl ?_)
            refine w_loop ?_
            unfold b10_0 r10_11 r10_12 r10_13 r10_14 r10_15 r10_20 r10_21 r10_22
            repeat' (first
              | refine w_seq ?_
              | refine w_ops ?_
              | refine w_opsD0 rfl ?_
              | refine st_nil ?_
              | refine th_n ?_
              | refine w_block ?_
              | refine w_skip ?_
              | refine w_true rfl ?_
              | refine mv_c rfl ?_
              | refine lss_t rfl rfl (by omega) ?_
              | refine own0_ (fun u => ?_)
              | refine load_rp rfl (Nat.le_of_ble_eq_true rfl) rfl ?_
              | refine fad_rp rfl (Nat.le_of_ble_eq_true rfl) rfl ?_
              | refine iaA_rp rfl rfl (by omega) (Nat.le_of_ble_eq_true rfl) rfl ?_
              | refine iaS_c rfl rfl (by omega) (by assumption) rfl ?_)
            refine lines_in l h1 false _ _ _ _ _ _ _ l 0 [] _ _ _ rfl (by omega) (by simp) (by rfl) (by rfl) (by rfl) (by rfl) (by rfl) (by rfl) (by rfl) (by rfl) (by rfl) (by rfl) (by rfl) (by rfl) (by rfl) (by rfl) ?_
            intro s' v u1 u13 u14 w14 u15 u16 u7 u9 u10 u11 u12 w10 w11
            simp only [Bool.false_eq_true, if_false, List.nil_append] at u13 u14 w14 u15 u16
            rw [← put_same u1, ← put_same u13, ← put_same u14, ← put_same u15, ← put_same u16, ← put_same u7, ← put_same u9, ← put_same u10, ← put_same u11, ← put_same u12, ← box_same w14, ← box_same w10, ← box_same w11]
            repeat' (first
              | refine call1 rfl t0 ?_
              | refine w_seq ?_
              | refine w_ops ?_
              | refine st_nil ?_
              | refine th_n ?_
              | refine bk_n ?_
              | refine bk_x ?_
              | refine g_yes rfl ?_
              | refine mv_c rfl ?_
              | refine pick_t rfl rfl ?_
              | refine add_in rfl rfl (by omega) ?_
              | refine store_ptr rfl rfl (by decide) rfl rfl (Nat.le_of_ble_eq_true rfl) rfl ?_
              | refine fad_ptr rfl rfl rfl ?_
              | refine iaA_ptr rfl rfl rfl (by omega) rfl ?_
              | refine ext_ rfl rfl ?_
              | refine w_fz_osl rfl rfl rfl (fun u => ?_))
            refine w_loop ?_
            repeat' (first
              | refine w_seq ?_
              | refine w_ops ?_
              | refine w_opsD0 rfl ?_
              | refine st_nil ?_
              | refine th_n ?_
              | refine w_block ?_
              | refine w_skip ?_
              | refine w_true rfl ?_
              | refine mv_c rfl ?_
              | refine lss_t rfl rfl (by omega) ?_
              | refine own0_ (fun u => ?_)
              | refine load_rp rfl (Nat.le_of_ble_eq_true rfl) rfl ?_
              | refine fad_rp rfl (Nat.le_of_ble_eq_true rfl) rfl ?_
              | refine iaA_rp rfl rfl (by omega) (Nat.le_of_ble_eq_true rfl) rfl ?_
              | refine iaS_c rfl rfl (by omega) (by assumption) rfl ?_)
            refine lines_in l h1 true _ _ _ _ _ _ _ l 0 [] _ _ _ rfl (by omega) (by simp) (by rfl) (by rfl) (by rfl) (by rfl) (by rfl) (by rfl) (by rfl) (by rfl) (by rfl) (by rfl) (by rfl) (by rfl) (by rfl) (by rfl) ?_
            intro s' v u1 u13 u14 w14 u15 u16 u7 u9 u10 u11 u12 w10 w11
            simp only [if_true, List.nil_append] at u13 u14 w14 u15 u16
            rw [← put_same u1, ← put_same u13, ← put_same u14, ← put_same u15, ← put_same u16, ← put_same u7, ← put_same u9, ← put_same u10, ← put_same u11, ← put_same u12, ← box_same w14, ← box_same w10, ← box_same w11]
            repeat' (first
              | refine call1 rfl t1 ?_
              | refine w_seq ?_
              | refine w_ops ?_
              | refine st_nil ?_
              | refine th_n ?_
              | refine bk_n ?_
              | refine bk_x ?_
              | refine g_yes rfl ?_
              | refine mv_c rfl ?_
              | refine pick_t rfl rfl ?_
              | refine add_in rfl rfl (by omega) ?_
              | refine store_ptr rfl rfl (by decide) rfl rfl (Nat.le_of_ble_eq_true rfl) rfl ?_
              | refine fad_ptr rfl rfl rfl ?_
              | refine iaA_ptr rfl rfl rfl (by omega) rfl ?_
              | refine ext_ rfl rfl ?_
              | refine w_fz_osl rfl rfl rfl (fun u => ?_))
            refine w_loop ?_
            repeat' (first
              | refine eqs_t rfl rfl (n1 _) ?_
              | refine eqs_t rfl rfl e2 ?_
              | refine call0 hw ?_
              | refine w_seq ?_
              | refine w_ops ?_
              | refine st_nil ?_
              | refine th_n ?_
              | refine th_x ?_
              | refine bk_x ?_
              | refine w_skip ?_
              | refine w_exit ?_
              | refine w_ret ?_
              | refine w_false rfl ?_
              | refine g_yes rfl ?_
              | refine mv_c rfl ?_
              | refine pick_t rfl rfl ?_
              | refine lss_f rfl rfl (by omega) ?_
              | refine not_ rfl ?_
              | refine load_ptr rfl (by decide) rfl (Nat.le_of_ble_eq_true rfl) rfl ?_)
            exact fin_r rfl rfl
          · rw [if_neg f1] at t1
            have hF : ¬ fitsC m l := fun h => f1 ((hfit.mp h).2 hm2)
            have hK : (ofC m l).2 = false := by rw [Bool.eq_false_iff]; exact fun h => hF (hok.mp h).2
            rw [if_neg hF] at c2
            rw [hK] at c1
            have e2 := eqLn zeroLn
            generalize (ofC m l).1 = z at *
            repeat' (first
              | refine len_sl rfl lel ?_
              | refine call1 rfl c0 ?_
              | refine call2 rfl rfl c1 ?_
              | refine call3 rfl rfl rfl c2 ?_
              | refine w_seq ?_
              | refine w_ops ?_
              | refine st_nil ?_
              | refine th_n ?_
              | refine w_block ?_
              | refine w_skip ?_
              | refine w_false rfl ?_
              | refine mv_c rfl ?_
              | refine gtr_f rfl rfl (by omega) ?_
              | refine eql_f rfl rfl (by omega) ?_
              | refine alloc_ (fun u => ?_)
              | refine box_ rfl rfl rfl (fun u => ?_)
              | refine build_ rfl rfl ?_
              | refine load_ptr rfl (by decide) rfl (Nat.le_of_ble_eq_true rfl) rfl ?_
              | refine store_ptr rfl rfl (by decide) rfl rfl (Nat.le_of_ble_eq_true rfl) rfl ?_
              | refine ext_ rfl rfl ?_)
            refine w_loop ?_
            unfold b10_0 r10_11 r10_12 r10_13 r10_14 r10_15 r10_20 r10_21 r10_22
            repeat' (first
              | refine w_seq ?_
              | refine w_ops ?_
              | refine w_opsD0 rfl ?_
              | refine st_nil ?_
              | refine th_n ?_
              | refine w_block ?_
              | refine w_skip ?_
              | refine w_true rfl ?_
              | refine mv_c rfl ?_
              | refine lss_t rfl rfl (by omega) ?_
              | refine own0_ (fun u => ?_)
              | refine load_rp rfl (Nat.le_of_ble_eq_true rfl) rfl ?_
              | refine fad_rp rfl (Nat.le_of_ble_eq_true rfl) rfl ?_
              | refine iaA_rp rfl rfl (by omega) (Nat.le_of_ble_eq_true rfl) rfl ?_
              | refine iaS_c rfl rfl (by omega) (by assumption) rfl ?_)
            refine lines_in l h1 false _ _ _ _ _ _ _ l 0 [] _ _ _ rfl (by omega) (by simp) (by rfl) (by rfl) (by rfl) (by rfl) (by rfl) (by rfl) (by rfl) (by rfl) (by rfl) (by rfl) (by rfl) (by rfl) (by rfl) (by rfl) ?_
            intro s' v u1 u13 u14 w14 u15 u16 u7 u9 u10 u11 u12 w10 w11
            simp only [Bool.false_eq_true, if_false, List.nil_append] at u13 u14 w14 u15 u16
            rw [← put_same u1, ← put_same u13, ← put_same u14, ← put_same u15, ← put_same u16, ← put_same u7, ← put_same u9, ← put_same u10, ← put_same u11, ← put_same u12, ← box_same w14, ← box_same w10, ← box_same w11]
            repeat' (first
              | refine call1 rfl t0 ?_
              | refine w_seq ?_
              | refine w_ops ?_
              | refine st_nil ?_
              | refine th_n ?_
              | refine bk_n ?_
              | refine bk_x ?_
              | refine g_yes rfl ?_
              | refine mv_c rfl ?_
              | refine pick_t rfl rfl ?_
              | refine add_in rfl rfl (by omega) ?_
              | refine store_ptr rfl rfl (by decide) rfl rfl (Nat.le_of_ble_eq_true rfl) rfl ?_
              | refine fad_ptr rfl rfl rfl ?_
              | refine iaA_ptr rfl rfl rfl (by omega) rfl ?_
              | refine ext_ rfl rfl ?_
              | refine w_fz_osl rfl rfl rfl (fun u => ?_))
            refine w_loop ?_
            repeat' (first
              | refine w_seq ?_
              | refine w_ops ?_
              | refine w_opsD0 rfl ?_
              | refine st_nil ?_
              | refine th_n ?_
              | refine w_block ?_
              | refine w_skip ?_
              | refine w_true rfl ?_
              | refine mv_c rfl ?_
              | refine lss_t rfl rfl (by omega) ?_
              | refine own0_ (fun u => ?_)
              | refine load_rp rfl (Nat.le_of_ble_eq_true rfl) rfl ?_
              | refine fad_rp rfl (Nat.le_of_ble_eq_true rfl) rfl ?_
              | refine iaA_rp rfl rfl (by omega) (Nat.le_of_ble_eq_true rfl) rfl ?_
              | refine iaS_c rfl rfl (by omega) (by assumption) rfl ?_)
            refine lines_in l h1 true _ _ _ _ _ _ _ l 0 [] _ _ _ rfl (by omega) (by simp) (by rfl) (by rfl) (by rfl) (by rfl) (by rfl) (by rfl) (by rfl) (by rfl) (by rfl) (by rfl) (by rfl) (by rfl) (by rfl) (by rfl) ?_
            intro s' v u1 u13 u14 w14 u15 u16 u7 u9 u10 u11 u12 w10 w11
            simp only [if_true, List.nil_append] at u13 u14 w14 u15 u16
            rw [← put_same u1, ← put_same u13, ← put_same u14, ← put_same u15, ← put_same u16, ← put_same u7, ← put_same u9, ← put_same u10, ← put_same u11, ← put_same u12, ← box_same w14, ← box_same w10, ← box_same w11]
            repeat' (first
              | refine call1 rfl t1 ?_
              | refine w_seq ?_
              | refine w_ops ?_
              | refine st_nil ?_
              | refine th_n ?_
              | refine bk_n ?_
              | refine bk_x ?_
              | refine g_yes rfl ?_
              | refine mv_c rfl ?_
              | refine pick_t rfl rfl ?_
              | refine add_in rfl rfl (by omega) ?_
              | refine store_ptr rfl rfl (by decide) rfl rfl (Nat.le_of_ble_eq_true rfl) rfl ?_
              | refine fad_ptr rfl rfl rfl ?_
              | refine iaA_ptr rfl rfl rfl (by omega) rfl ?_
              | refine ext_ rfl rfl ?_
              | refine w_fz_osl rfl rfl rfl (fun u => ?_))
            refine w_loop ?_
            repeat' (first
              | refine eqs_t rfl rfl (n1 _) ?_
              | refine eqs_t rfl rfl e2 ?_
              | refine call0 hw ?_
              | refine w_seq ?_
              | refine w_ops ?_
              | refine st_nil ?_
              | refine th_n ?_
              | refine th_x ?_
              | refine bk_x ?_
              | refine w_exit ?_
              | refine w_ret ?_
              | refine w_true rfl ?_
              | refine w_false rfl ?_
              | refine g_yes rfl ?_
              | refine mv_c rfl ?_
              | refine pick_t rfl rfl ?_
              | refine lss_f rfl rfl (by omega) ?_
              | refine not_ rfl ?_
              | refine build_ rfl rfl ?_
              | refine load_ptr rfl (by decide) rfl (Nat.le_of_ble_eq_true rfl) rfl ?_
              | refine store_ptr rfl rfl (by decide) rfl rfl (Nat.le_of_ble_eq_true rfl) rfl ?_)
            exact fin_r rfl rfl
        · rw [if_neg f0] at t0
          have hF : ¬ fitsC m l := fun h => f0 (hfit.mp h).1
          have hK : (ofC m l).2 = false := by rw [Bool.eq_false_iff]; exact fun h => hF (hok.mp h).2
          rw [if_neg hF] at c2
          rw [hK] at c1
          have e2 := eqLn zeroLn
          obtain ⟨q1, q2, hq⟩ : ∃ q1 q2, (if I64 S1 then CV.tup [.int .i64 S1, .bool true] else .tup [.int .i64 0, .bool false]) = .tup [.int .i64 q1, .bool q2] := by
            split
            · exact ⟨_, _, rfl⟩
            · exact ⟨_, _, rfl⟩
          rw [hq] at t1
          generalize (ofC m l).1 = z at *
          repeat' (first
            | refine len_sl rfl lel ?_
            | refine call1 rfl c0 ?_
            | refine call2 rfl rfl c1 ?_
            | refine call3 rfl rfl rfl c2 ?_
            | refine w_seq ?_
            | refine w_ops ?_
            | refine st_nil ?_
            | refine th_n ?_
            | refine w_block ?_
            | refine w_skip ?_
            | refine w_false rfl ?_
            | refine mv_c rfl ?_
            | refine gtr_f rfl rfl (by omega) ?_
            | refine eql_f rfl rfl (by omega) ?_
            | refine alloc_ (fun u => ?_)
            | refine box_ rfl rfl rfl (fun u => ?_)
            | refine build_ rfl rfl ?_
            | refine load_ptr rfl (by decide) rfl (Nat.le_of_ble_eq_true rfl) rfl ?_
            | refine store_ptr rfl rfl (by decide) rfl rfl (Nat.le_of_ble_eq_true rfl) rfl ?_
            | refine ext_ rfl rfl ?_)
          refine w_loop ?_
          unfold b10_0 r10_11 r10_12 r10_13 r10_14 r10_15 r10_20 r10_21 r10_22
          repeat' (first
            | refine w_seq ?_
            | refine w_ops ?_
            | refine w_opsD0 rfl ?_
            | refine st_nil ?_
            | refine th_n ?_
            | refine w_block ?_
            | refine w_skip ?_
            | refine w_true rfl ?_
            | refine mv_c rfl ?_
            | refine lss_t rfl rfl (by omega) ?_
            | refine own0_ (fun u => ?_)
            | refine load_rp rfl (Nat.le_of_ble_eq_true rfl) rfl ?_
            | refine fad_rp rfl (Nat.le_of_ble_eq_true rfl) rfl ?_
            | refine iaA_rp rfl rfl (by omega) (Nat.le_of_ble_eq_true rfl) rfl ?_
            | refine iaS_c rfl rfl (by omega) (by assumption) rfl ?_)
          refine lines_in l h1 false _ _ _ _ _ _ _ l 0 [] _ _ _ rfl (by omega) (by simp) (by rfl) (by rfl) (by rfl) (by rfl) (by rfl) (by rfl) (by rfl) (by rfl) (by rfl) (by rfl) (by rfl) (by rfl) (by rfl) (by rfl) ?_
          intro s' v u1 u13 u14 w14 u15 u16 u7 u9 u10 u11 u12 w10 w11
          simp only [Bool.false_eq_true, if_false, List.nil_append] at u13 u14 w14 u15 u16
          rw [← put_same u1, ← put_same u13, ← put_same u14, ← put_same u15, ← put_same u16, ← put_same u7, ← put_same u9, ← put_same u10, ← put_same u11, ← put_same u12, ← box_same w14, ← box_same w10, ← box_same w11]
          repeat' (first
            | refine call1 rfl t0 ?_
            | refine w_seq ?_
            | refine w_ops ?_
            | refine st_nil ?_
            | refine th_n ?_
            | refine bk_n ?_
            | refine bk_x ?_
            | refine g_yes rfl ?_
            | refine mv_c rfl ?_
            | refine pick_t rfl rfl ?_
            | refine add_in rfl rfl (by omega) ?_
            | refine store_ptr rfl rfl (by decide) rfl rfl (Nat.le_of_ble_eq_true rfl) rfl ?_
            | refine fad_ptr rfl rfl rfl ?_
            | refine iaA_ptr rfl rfl rfl (by omega) rfl ?_
            | refine ext_ rfl rfl ?_
            | refine w_fz_osl rfl rfl rfl (fun u => ?_))
          refine w_loop ?_
          repeat' (first
            | refine w_seq ?_
            | refine w_ops ?_
            | refine w_opsD0 rfl ?_
            | refine st_nil ?_
            | refine th_n ?_
            | refine w_block ?_
            | refine w_skip ?_
            | refine w_true rfl ?_
            | refine mv_c rfl ?_
            | refine lss_t rfl rfl (by omega) ?_
            | refine own0_ (fun u => ?_)
            | refine load_rp rfl (Nat.le_of_ble_eq_true rfl) rfl ?_
            | refine fad_rp rfl (Nat.le_of_ble_eq_true rfl) rfl ?_
            | refine iaA_rp rfl rfl (by omega) (Nat.le_of_ble_eq_true rfl) rfl ?_
            | refine iaS_c rfl rfl (by omega) (by assumption) rfl ?_)
          refine lines_in l h1 true _ _ _ _ _ _ _ l 0 [] _ _ _ rfl (by omega) (by simp) (by rfl) (by rfl) (by rfl) (by rfl) (by rfl) (by rfl) (by rfl) (by rfl) (by rfl) (by rfl) (by rfl) (by rfl) (by rfl) (by rfl) ?_
          intro s' v u1 u13 u14 w14 u15 u16 u7 u9 u10 u11 u12 w10 w11
          simp only [if_true, List.nil_append] at u13 u14 w14 u15 u16
          rw [← put_same u1, ← put_same u13, ← put_same u14, ← put_same u15, ← put_same u16, ← put_same u7, ← put_same u9, ← put_same u10, ← put_same u11, ← put_same u12, ← box_same w14, ← box_same w10, ← box_same w11]
          repeat' (first
            | refine call1 rfl t1 ?_
            | refine w_seq ?_
            | refine w_ops ?_
            | refine st_nil ?_
            | refine th_n ?_
            | refine bk_n ?_
            | refine bk_x ?_
            | refine g_no rfl ?_
            | refine mv_c rfl ?_
            | refine pick_f rfl rfl ?_
            | refine add_in rfl rfl (by omega) ?_
            | refine store_ptr rfl rfl (by decide) rfl rfl (Nat.le_of_ble_eq_true rfl) rfl ?_
            | refine fad_ptr rfl rfl rfl ?_
            | refine iaA_ptr rfl rfl rfl (by omega) rfl ?_
            | refine ext_ rfl rfl ?_
            | refine w_fz_osl rfl rfl rfl (fun u => ?_))
          refine w_loop ?_
          repeat' (first
            | refine eqs_t rfl rfl (n1 _) ?_
            | refine eqs_t rfl rfl e2 ?_
            | refine call0 hw ?_
            | refine w_seq ?_
            | refine w_ops ?_
            | refine st_nil ?_
            | refine th_n ?_
            | refine th_x ?_
            | refine bk_x ?_
            | refine w_exit ?_
            | refine w_ret ?_
            | refine w_true rfl ?_
            | refine w_false rfl ?_
            | refine g_yes rfl ?_
            | refine mv_c rfl ?_
            | refine pick_t rfl rfl ?_
            | refine lss_f rfl rfl (by omega) ?_
            | refine not_ rfl ?_
            | refine build_ rfl rfl ?_
            | refine load_ptr rfl (by decide) rfl (Nat.le_of_ble_eq_true rfl) rfl ?_
            | refine store_ptr rfl rfl (by decide) rfl rfl (Nat.le_of_ble_eq_true rfl) rfl ?_)
          exact fin_r rfl rfl
      · by_cases f0 : I64 S0
        · rw [if_pos f0] at t0
          have hF : fitsC m l := hfit.mpr ⟨f0, fun h => absurd h hm2⟩
          have hK : (ofC m l).2 = true := hok.mpr ⟨by rw [← hL]; simp, hF⟩
          rw [if_pos hF] at c2
          simp only [if_neg hm2] at c2
          rw [hK] at c1
          have e2 := eqLn ⟨p0, p1, p2, p3, l.length, S0, 0, loF r0.m0 (l.map (mv 0)), 0, hiF r0.m0 (l.map (mv 0)), 0⟩
          generalize (ofC m l).1 = z at *
          repeat' (first
            | refine len_sl rfl lel ?_
            | refine call1 rfl c0 ?_
            | refine call2 rfl rfl c1 ?_
            | refine call3 rfl rfl rfl c2 ?_
            | refine w_seq ?_
            | refine w_ops ?_
            | refine st_nil ?_
            | refine th_n ?_
            | refine w_block ?_
            | refine w_skip ?_
            | refine w_false rfl ?_
            | refine mv_c rfl ?_
            | refine gtr_f rfl rfl (by omega) ?_
            | refine eql_f rfl rfl (by omega) ?_
            | refine alloc_ (fun u => ?_)
            | refine box_ rfl rfl rfl (fun u => ?_)
            | refine build_ rfl rfl ?_
            | refine load_ptr rfl (by decide) rfl (Nat.le_of_ble_eq_true rfl) rfl ?_
            | refine store_ptr rfl rfl (by decide) rfl rfl (Nat.le_of_ble_eq_true rfl) rfl ?_
            | refine ext_ rfl rfl ?_)
          refine w_loop ?_
          unfold b10_0 r10_11 r10_12 r10_13 r10_14 r10_15 r10_20 r10_21 r10_22
          repeat' (first
            | refine w_seq ?_
            | refine w_ops ?_
            | refine w_opsD0 rfl ?_
            | refine st_nil ?_
            | refine th_n ?_
            | refine w_block ?_
            | refine w_skip ?_
            | refine w_true rfl ?_
            | refine mv_c rfl ?_
            | refine lss_t rfl rfl (by omega) ?_
            | refine own0_ (fun u => ?_)
            | refine load_rp rfl (Nat.le_of_ble_eq_true rfl) rfl ?_
            | refine fad_rp rfl (Nat.le_of_ble_eq_true rfl) rfl ?_
            | refine iaA_rp rfl rfl (by omega) (Nat.le_of_ble_eq_true rfl) rfl ?_
            | refine iaS_c rfl rfl (by omega) (by assumption) rfl ?_)
          refine lines_in l h1 false _ _ _ _ _ _ _ l 0 [] _ _ _ rfl (by omega) (by simp) (by rfl) (by rfl) (by rfl) (by rfl) (by rfl) (by rfl) (by rfl) (by rfl) (by rfl) (by rfl) (by rfl) (by rfl) (by rfl) (by rfl) ?_
          intro s' v u1 u13 u14 w14 u15 u16 u7 u9 u10 u11 u12 w10 w11
          simp only [Bool.false_eq_true, if_false, List.nil_append] at u13 u14 w14 u15 u16
          rw [← put_same u1, ← put_same u13, ← put_same u14, ← put_same u15, ← put_same u16, ← put_same u7, ← put_same u9, ← put_same u10, ← put_same u11, ← put_same u12, ← box_same w14, ← box_same w10, ← box_same w11]
          repeat' (first
            | refine call1 rfl t0 ?_
            | refine w_seq ?_
            | refine w_ops ?_
            | refine st_nil ?_
            | refine th_n ?_
            | refine bk_n ?_
            | refine bk_x ?_
            | refine g_yes rfl ?_
            | refine mv_c rfl ?_
            | refine pick_t rfl rfl ?_
            | refine add_in rfl rfl (by omega) ?_
            | refine store_ptr rfl rfl (by decide) rfl rfl (Nat.le_of_ble_eq_true rfl) rfl ?_
            | refine fad_ptr rfl rfl rfl ?_
            | refine iaA_ptr rfl rfl rfl (by omega) rfl ?_
            | refine ext_ rfl rfl ?_
            | refine w_fz_osl rfl rfl rfl (fun u => ?_))
          refine w_loop ?_
          repeat' (first
            | refine eqs_t rfl rfl (n1 _) ?_
            | refine eqs_t rfl rfl e2 ?_
            | refine call0 hw ?_
            | refine w_seq ?_
            | refine w_ops ?_
            | refine st_nil ?_
            | refine th_n ?_
            | refine th_x ?_
            | refine bk_x ?_
            | refine w_skip ?_
            | refine w_exit ?_
            | refine w_ret ?_
            | refine w_false rfl ?_
            | refine g_yes rfl ?_
            | refine mv_c rfl ?_
            | refine pick_t rfl rfl ?_
            | refine lss_f rfl rfl (by omega) ?_
            | refine not_ rfl ?_
            | refine load_ptr rfl (by decide) rfl (Nat.le_of_ble_eq_true rfl) rfl ?_)
          exact fin_r rfl rfl
        · rw [if_neg f0] at t0
          have hF : ¬ fitsC m l := fun h => f0 (hfit.mp h).1
          have hK : (ofC m l).2 = false := by rw [Bool.eq_false_iff]; exact fun h => hF (hok.mp h).2
          rw [if_neg hF] at c2
          rw [hK] at c1
          have e2 := eqLn zeroLn
          generalize (ofC m l).1 = z at *
          repeat' (first
            | refine len_sl rfl lel ?_
            | refine call1 rfl c0 ?_
            | refine call2 rfl rfl c1 ?_
            | refine call3 rfl rfl rfl c2 ?_
            | refine w_seq ?_
            | refine w_ops ?_
            | refine st_nil ?_
            | refine th_n ?_
            | refine w_block ?_
            | refine w_skip ?_
            | refine w_false rfl ?_
            | refine mv_c rfl ?_
            | refine gtr_f rfl rfl (by omega) ?_
            | refine eql_f rfl rfl (by omega) ?_
            | refine alloc_ (fun u => ?_)
            | refine box_ rfl rfl rfl (fun u => ?_)
            | refine build_ rfl rfl ?_
            | refine load_ptr rfl (by decide) rfl (Nat.le_of_ble_eq_true rfl) rfl ?_
            | refine store_ptr rfl rfl (by decide) rfl rfl (Nat.le_of_ble_eq_true rfl) rfl ?_
            | refine ext_ rfl rfl ?_)
          refine w_loop ?_
          unfold b10_0 r10_11 r10_12 r10_13 r10_14 r10_15 r10_20 r10_21 r10_22
          repeat' (first
            | refine w_seq ?_
            | refine w_ops ?_
            | refine w_opsD0 rfl ?_
            | refine st_nil ?_
            | refine th_n ?_
            | refine w_block ?_
            | refine w_skip ?_
            | refine w_true rfl ?_
            | refine mv_c rfl ?_
            | refine lss_t rfl rfl (by omega) ?_
            | refine own0_ (fun u => ?_)
            | refine load_rp rfl (Nat.le_of_ble_eq_true rfl) rfl ?_
            | refine fad_rp rfl (Nat.le_of_ble_eq_true rfl) rfl ?_
            | refine iaA_rp rfl rfl (by omega) (Nat.le_of_ble_eq_true rfl) rfl ?_
            | refine iaS_c rfl rfl (by omega) (by assumption) rfl ?_)
          refine lines_in l h1 false _ _ _ _ _ _ _ l 0 [] _ _ _ rfl (by omega) (by simp) (by rfl) (by rfl) (by rfl) (by rfl) (by rfl) (by rfl) (by rfl) (by rfl) (by rfl) (by rfl) (by rfl) (by rfl) (by rfl) (by rfl) ?_
          intro s' v u1 u13 u14 w14 u15 u16 u7 u9 u10 u11 u12 w10 w11
          simp only [Bool.false_eq_true, if_false, List.nil_append] at u13 u14 w14 u15 u16
          rw [← put_same u1, ← put_same u13, ← put_same u14, ← put_same u15, ← put_same u16, ← put_same u7, ← put_same u9, ← put_same u10, ← put_same u11, ← put_same u12, ← box_same w14, ← box_same w10, ← box_same w11]
          repeat' (first
            | refine call1 rfl t0 ?_
            | refine w_seq ?_
            | refine w_ops ?_
            | refine st_nil ?_
            | refine th_n ?_
            | refine bk_n ?_
            | refine bk_x ?_
            | refine g_yes rfl ?_
            | refine mv_c rfl ?_
            | refine pick_t rfl rfl ?_
            | refine add_in rfl rfl (by omega) ?_
            | refine store_ptr rfl rfl (by decide) rfl rfl (Nat.le_of_ble_eq_true rfl) rfl ?_
            | refine fad_ptr rfl rfl rfl ?_
            | refine iaA_ptr rfl rfl rfl (by omega) rfl ?_
            | refine ext_ rfl rfl ?_
            | refine w_fz_osl rfl rfl rfl (fun u => ?_))
          refine w_loop ?_
          repeat' (first
            | refine eqs_t rfl rfl (n1 _) ?_
            | refine eqs_t rfl rfl e2 ?_
            | refine call0 hw ?_
            | refine w_seq ?_
            | refine w_ops ?_
            | refine st_nil ?_
            | refine th_n ?_
            | refine th_x ?_
            | refine bk_x ?_
            | refine w_exit ?_
            | refine w_ret ?_
            | refine w_true rfl ?_
            | refine w_false rfl ?_
            | refine g_yes rfl ?_
            | refine mv_c rfl ?_
            | refine pick_t rfl rfl ?_
            | refine lss_f rfl rfl (by omega) ?_
            | refine not_ rfl ?_
            | refine build_ rfl rfl ?_
            | refine load_ptr rfl (by decide) rfl (Nat.le_of_ble_eq_true rfl) rfl ?_
            | refine store_ptr rfl rfl (by decide) rfl rfl (Nat.le_of_ble_eq_true rfl) rfl ?_)
          exact fin_r rfl rfl
  · repeat' (first
    | refine len_sl rfl lel ?_
    | refine call0 hw ?_
    | refine w_seq ?_
    | refine w_ops ?_
    | refine st_nil ?_
    | refine th_n ?_
    | refine th_r ?_
    | refine w_ret ?_
    | refine w_true rfl ?_
    | refine mv_c rfl ?_
    | refine gtr_t rfl rfl (by omega) ?_
    | refine box_ rfl rfl rfl (fun u => ?_))
    exact fin_r rfl rfl
theorem ok_place {cs : List CV} (h : OkL [.int .u8, .int .u8, .int .u8, .int .u8] cs) : ∃ p : Go.Bag.Place, cs = encP p := by
  obtain ⟨hl, he⟩ := h
  match cs, hl, he with
  | [x0, x1, x2, x3], _, he =>
    obtain ⟨a0, rfl, _⟩ := ok_u8 (he 0 (by simp) (by simp))
    obtain ⟨a1, rfl, _⟩ := ok_u8 (he 1 (by simp) (by simp))
    obtain ⟨a2, rfl, _⟩ := ok_u8 (he 2 (by simp) (by simp))
    obtain ⟨a3, rfl, _⟩ := ok_u8 (he 3 (by simp) (by simp))
    exact ⟨⟨a0, a1, a2, a3⟩, rfl⟩
theorem L_CellLines (c0 : CV) (h0 : LF.Ok .bool c0) (c1 : CV) (h1 : LF.Ok (.sl [.int .u8, .int .u8, .int .u8, .int .u8, .int .i64, .int .i64]) c1) (c2 : List CV) (h2 : OkL [.int .u8, .int .u8, .int .u8, .int .u8] c2) : PCallG Try.prog 10 [.c c0, .c c1, .c (.agg c2)] (.c (.bool true)) [] := by
  obtain ⟨two, rfl⟩ := ok_bool h0
  obtain ⟨a, rfl, ra, ha⟩ := ok_rows h1
  obtain ⟨p, rfl⟩ := ok_place h2
  exact C_CellLines two a p ra ha
end Go.Proofs.Ytcmejdkjfekoeaa

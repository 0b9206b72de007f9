/- Part of the proof of CellOrder: lemmas. -/
import Derived.Test.YtcmejdkjfekoeaaCellS6
import Derived.Test.YtcmejdkjfekoeaaCellS11
import Derived.Test.YtcmejdkjfekoeaaProg
import Derived.KernelRfl
set_option linter.unusedVariables false
set_option linter.unusedSimpArgs false
namespace Go.Proofs.Ytcmejdkjfekoeaa
open Go.Pl
/- cuboid/cuboidlaw09.CellOrder -/
def r11_0 : List POp := [⟨some 5, .box 33 (.t 2), none⟩,
  ⟨some 6, .mv (.k (.bool false)), none⟩]
def r11_1 : List POp := [⟨some 14, .mv (.t 0), none⟩,
  ⟨some 15, .bsl 1 6 [.int .i64 0] [(0, (.t 14)), (1, (.k (.int .i64 1))), (2, (.k (.int .i64 2))), (3, (.k (.int .i64 3))), (4, (.k (.int .i64 4))), (5, (.k (.int .i64 5)))] false, none⟩,
  ⟨some 16, .len (.t 15), none⟩,
  ⟨some 17, .mv (.k (.int .i64 0)), none⟩]
def r11_2 : List POp := [⟨some 18, .bin .lss (.t 17) (.t 16), none⟩]
def r11_3 : List POp := [⟨some 19, .iaS 1 (.t 15) (.t 17), none⟩,
  ⟨some 20, .load false 1 (.t 19) [], none⟩,
  ⟨some 8, .mv (.t 20), none⟩]
def r11_4 : List POp := [⟨some 21, .mv (.t 1), none⟩,
  ⟨some 22, .bsl 1 3 [.int .i64 0] [(0, (.t 21)), (1, (.k (.int .i64 0))), (2, (.k (.int .i64 1)))] false, none⟩,
  ⟨some 23, .len (.t 22), none⟩,
  ⟨some 24, .mv (.k (.int .i64 0)), none⟩]
def r11_5 : List POp := [⟨some 25, .bin .lss (.t 24) (.t 23), none⟩]
def r11_6 : List POp := [⟨some 26, .iaS 1 (.t 22) (.t 24), none⟩,
  ⟨some 27, .load false 1 (.t 26) [], none⟩,
  ⟨some 10, .mv (.t 27), none⟩]
def r11_7 : List POp := [⟨some 28, .mv (.t 8), none⟩,
  ⟨some 29, .mv (.t 10), none⟩,
  ⟨some 30, .iaA 3 11 (.t 5) (.k (.int .i64 0)), none⟩,
  ⟨some 31, .load true 11 (.t 30) [], none⟩,
  ⟨some 32, .iaA 3 11 (.t 5) (.k (.int .i64 1)), none⟩,
  ⟨some 33, .load true 11 (.t 32) [], none⟩,
  ⟨some 34, .call false 55 [(.t 28), (.t 29), (.t 31), (.t 33)], none⟩,
  ⟨some 35, .mv (.t 8), none⟩,
  ⟨some 36, .mv (.t 10), none⟩,
  ⟨some 37, .iaA 3 11 (.t 5) (.k (.int .i64 1)), none⟩,
  ⟨some 38, .load true 11 (.t 37) [], none⟩,
  ⟨some 39, .iaA 3 11 (.t 5) (.k (.int .i64 2)), none⟩,
  ⟨some 40, .load true 11 (.t 39) [], none⟩,
  ⟨some 41, .call false 55 [(.t 35), (.t 36), (.t 38), (.t 40)], none⟩,
  ⟨some 42, .mv (.t 8), none⟩,
  ⟨some 43, .mv (.t 10), none⟩,
  ⟨some 44, .iaA 3 11 (.t 5) (.k (.int .i64 0)), none⟩,
  ⟨some 45, .load true 11 (.t 44) [], none⟩,
  ⟨some 46, .iaA 3 11 (.t 5) (.k (.int .i64 2)), none⟩,
  ⟨some 47, .load true 11 (.t 46) [], none⟩,
  ⟨some 48, .call false 55 [(.t 42), (.t 43), (.t 45), (.t 47)], none⟩,
  ⟨some 11, .mv (.t 34), none⟩,
  ⟨some 12, .mv (.t 41), none⟩,
  ⟨some 13, .mv (.t 48), none⟩]
def r11_8 : List POp := [⟨some 49, .mv (.t 11), none⟩,
  ⟨some 50, .mv (.t 8), none⟩,
  ⟨some 51, .mv (.t 10), none⟩,
  ⟨some 52, .iaA 3 11 (.t 5) (.k (.int .i64 0)), none⟩,
  ⟨some 53, .load true 11 (.t 52) [], none⟩,
  ⟨some 54, .iaA 3 11 (.t 5) (.k (.int .i64 1)), none⟩,
  ⟨some 55, .load true 11 (.t 54) [], none⟩,
  ⟨some 56, .call false 56 [(.t 50), (.t 51), (.t 53), (.t 55)], none⟩,
  ⟨some 57, .bin .neq (.t 49) (.t 56), none⟩,
  ⟨some 58, .mv (.t 57), none⟩,
  ⟨some 59, .mv (.t 8), (some (58, false))⟩,
  ⟨some 60, .mv (.t 10), (some (58, false))⟩,
  ⟨some 61, .iaA 3 11 (.t 5) (.k (.int .i64 1)), (some (58, false))⟩,
  ⟨some 62, .load true 11 (.t 61) [], (some (58, false))⟩,
  ⟨some 63, .iaA 3 11 (.t 5) (.k (.int .i64 0)), (some (58, false))⟩,
  ⟨some 64, .load true 11 (.t 63) [], (some (58, false))⟩,
  ⟨some 65, .call false 55 [(.t 59), (.t 60), (.t 62), (.t 64)], (some (58, false))⟩,
  ⟨some 66, .mv (.t 11), (some (58, false))⟩,
  ⟨some 67, .un .neg (.t 66), (some (58, false))⟩,
  ⟨some 68, .bin .neq (.t 65) (.t 67), (some (58, false))⟩,
  ⟨some 69, .pick (.t 58) (.k (.bool true)) (.t 68), none⟩,
  ⟨some 70, .mv (.t 69), none⟩,
  ⟨some 71, .mv (.t 11), (some (70, false))⟩,
  ⟨some 72, .bin .lss (.t 71) (.k (.int .i64 (-1))), (some (70, false))⟩,
  ⟨some 73, .pick (.t 70) (.k (.bool true)) (.t 72), none⟩,
  ⟨some 74, .mv (.t 73), none⟩,
  ⟨some 75, .mv (.t 11), (some (74, false))⟩,
  ⟨some 76, .bin .gtr (.t 75) (.k (.int .i64 1)), (some (74, false))⟩,
  ⟨some 77, .pick (.t 74) (.k (.bool true)) (.t 76), none⟩]
def r11_9 : List POp := [⟨some 6, .mv (.k (.bool false)), none⟩]
def r11_10 : List POp := [⟨some 78, .mv (.t 11), none⟩,
  ⟨some 79, .bin .leq (.t 78) (.k (.int .i64 0)), none⟩,
  ⟨some 80, .mv (.t 79), none⟩,
  ⟨some 81, .mv (.t 12), (some (80, true))⟩,
  ⟨some 82, .bin .leq (.t 81) (.k (.int .i64 0)), (some (80, true))⟩,
  ⟨some 83, .pick (.t 80) (.t 82) (.k (.bool false)), none⟩,
  ⟨some 84, .mv (.t 83), none⟩,
  ⟨some 85, .mv (.t 13), (some (84, true))⟩,
  ⟨some 86, .bin .gtr (.t 85) (.k (.int .i64 0)), (some (84, true))⟩,
  ⟨some 87, .mv (.t 86), (some (84, true))⟩,
  ⟨some 88, .mv (.t 13), (some (87, false))⟩,
  ⟨some 89, .bin .eql (.t 88) (.k (.int .i64 0)), (some (87, false))⟩,
  ⟨some 90, .mv (.t 89), (some (87, false))⟩,
  ⟨some 91, .mv (.t 11), (some (90, true))⟩,
  ⟨some 92, .mv (.t 12), (some (90, true))⟩,
  ⟨some 93, .bin .add (.t 91) (.t 92), (some (90, true))⟩,
  ⟨some 94, .bin .lss (.t 93) (.k (.int .i64 0)), (some (90, true))⟩,
  ⟨some 95, .pick (.t 90) (.t 94) (.k (.bool false)), (some (87, false))⟩,
  ⟨some 96, .pick (.t 87) (.k (.bool true)) (.t 95), (some (84, true))⟩,
  ⟨some 97, .pick (.t 84) (.t 96) (.k (.bool false)), none⟩,
  ⟨some 98, .mv (.t 97), none⟩,
  ⟨some 99, .mv (.t 11), (some (98, false))⟩,
  ⟨some 100, .bin .geq (.t 99) (.k (.int .i64 0)), (some (98, false))⟩,
  ⟨some 101, .mv (.t 100), (some (98, false))⟩,
  ⟨some 102, .mv (.t 12), (some (101, true))⟩,
  ⟨some 103, .bin .geq (.t 102) (.k (.int .i64 0)), (some (101, true))⟩,
  ⟨some 104, .pick (.t 101) (.t 103) (.k (.bool false)), (some (98, false))⟩,
  ⟨some 105, .mv (.t 104), (some (98, false))⟩,
  ⟨some 106, .mv (.t 13), (some (105, true))⟩,
  ⟨some 107, .bin .lss (.t 106) (.k (.int .i64 0)), (some (105, true))⟩,
  ⟨some 108, .mv (.t 107), (some (105, true))⟩,
  ⟨some 109, .mv (.t 13), (some (108, false))⟩,
  ⟨some 110, .bin .eql (.t 109) (.k (.int .i64 0)), (some (108, false))⟩,
  ⟨some 111, .mv (.t 110), (some (108, false))⟩,
  ⟨some 112, .mv (.t 11), (some (111, true))⟩,
  ⟨some 113, .mv (.t 12), (some (111, true))⟩,
  ⟨some 114, .bin .add (.t 112) (.t 113), (some (111, true))⟩,
  ⟨some 115, .bin .gtr (.t 114) (.k (.int .i64 0)), (some (111, true))⟩,
  ⟨some 116, .pick (.t 111) (.t 115) (.k (.bool false)), (some (108, false))⟩,
  ⟨some 117, .pick (.t 108) (.k (.bool true)) (.t 116), (some (105, true))⟩,
  ⟨some 118, .pick (.t 105) (.t 117) (.k (.bool false)), (some (98, false))⟩,
  ⟨some 119, .pick (.t 98) (.k (.bool true)) (.t 118), none⟩]
def r11_11 : List POp := [⟨some 6, .mv (.k (.bool false)), none⟩]
def r11_12 : List POp := [⟨some 120, .bin .add (.t 24) (.k (.int .i64 1)), none⟩,
  ⟨some 24, .mv (.t 120), none⟩]
def b11_1 : PCode := (.seq (.ops false r11_5) (.seq (.cond (.t 25) .skip (.exit 2)) (.seq (.block 3 (.seq (.ops false r11_6) (.seq (.ops true r11_7) (.seq (.seq (.ops false r11_8) (.cond (.t 77) (.seq (.ops false r11_9) .ret) .skip)) (.seq (.ops false r11_10) (.cond (.t 119) (.seq (.ops false r11_11) .ret) .skip)))))) (.ops false r11_12))))
def r11_13 : List POp := [⟨some 121, .bin .add (.t 17) (.k (.int .i64 1)), none⟩,
  ⟨some 17, .mv (.t 121), none⟩]
def b11_0 : PCode := (.seq (.ops false r11_2) (.seq (.cond (.t 18) .skip (.exit 0)) (.seq (.block 1 (.seq (.ops false r11_3) (.seq (.ops false r11_4) (.block 2 (.loop b11_1))))) (.ops false r11_13))))
def r11_14 : List POp := [⟨some 122, .call false 43 [], none⟩,
  ⟨some 6, .mv (.t 122), none⟩]
def p11 : PCode := (.seq (.ops false r11_0) (.seq (.seq (.ops false r11_1) (.block 0 (.loop b11_0))) (.seq (.ops false r11_14) .ret)))
def rs11 : List RS := [.t 6]
theorem c11 : chkF Try.prog Try.f11 3 p11 rs11 = true := by kernel_rfl
end Go.Proofs.Ytcmejdkjfekoeaa
namespace Go.Proofs.Ytcmejdkjfekoeaa
open Go.Pl Go.Bag
set_option maxHeartbeats 16000000
set_option maxRecDepth 100000
theorem cmpI_neg (a b : Int) : cmpI b a = -cmpI a b := by unfold cmpI; (repeat' split) <;> omega
theorem aheadC_neg (f i : Int) (a b : LineS) : aheadC f i b a = -aheadC f i a b := by
  unfold aheadC
  (repeat' split) <;> first | exact cmpI_neg _ _ | rfl
theorem aheadC_in (f i : Int) (a b : LineS) : -1 ≤ aheadC f i a b ∧ aheadC f i a b ≤ 1 := by
  unfold aheadC
  (repeat' split) <;> first | exact cmpI_in _ _ | decide
/-- what is ahead of one that is ahead is ahead -/
def Chain (p q r : Int) : Prop := (p ≤ 0 → q ≤ 0 → r ≤ 0 ∧ (r = 0 → 0 ≤ p + q)) ∧ (0 ≤ p → 0 ≤ q → 0 ≤ r ∧ (r = 0 → p + q ≤ 0))
theorem chain_cmp (x y z : Int) : Chain (cmpI y x) (cmpI z y) (cmpI z x) := by
  unfold Chain cmpI
  rcases Int.lt_trichotomy x y with h1 | h1 | h1 <;> rcases Int.lt_trichotomy y z with h2 | h2 | h2 <;> rcases Int.lt_trichotomy x z with h3 | h3 | h3 <;>
    simp [h1, h2, h3, show ¬ (0 : Int) < -1 by decide] <;> omega
theorem cmp_scale {k : Int} (hk : 0 < k) (x y : Int) : cmpI (x * k) (y * k) = cmpI x y := by
  unfold cmpI
  have h1 : x * k < y * k ↔ x < y := Int.mul_lt_mul_right hk
  have h2 : y * k < x * k ↔ y < x := Int.mul_lt_mul_right hk
  simp only [h1, h2]
/-- parts of wholes, held against each other crosswise -/
theorem chain_part {sa sb sc na nb nc : Int} (ha : 0 < na) (hb : 0 < nb) (hc : 0 < nc) : Chain (cmpI (sb * na) (sa * nb)) (cmpI (sc * nb) (sb * nc)) (cmpI (sc * na) (sa * nc)) := by
  have e1 : cmpI (sb * na) (sa * nb) = cmpI (sb * na * nc) (sa * nb * nc) := (cmp_scale hc _ _).symm
  have e2 : cmpI (sc * nb) (sb * nc) = cmpI (sc * nb * na) (sb * nc * na) := (cmp_scale ha _ _).symm
  have e3 : cmpI (sc * na) (sa * nc) = cmpI (sc * na * nb) (sa * nc * nb) := (cmp_scale hb _ _).symm
  have m1 : sb * nc * na = sb * na * nc := by rw [Int.mul_assoc, Int.mul_comm nc, ← Int.mul_assoc]
  have m2 : sc * na * nb = sc * nb * na := by rw [Int.mul_assoc, Int.mul_comm na, ← Int.mul_assoc]
  have m3 : sa * nc * nb = sa * nb * nc := by rw [Int.mul_assoc, Int.mul_comm nc, ← Int.mul_assoc]
  rw [e1, e2, e3, m1, m2, m3]
  exact chain_cmp _ _ _
theorem one1_pos (n : Int) : 0 < one1 n := by unfold one1; split <;> omega
theorem aheadC_chain (f i : Int) (a b c : LineS) : Chain (aheadC f i a b) (aheadC f i b c) (aheadC f i a c) := by
  unfold aheadC
  (repeat' split) <;> first | exact chain_cmp _ _ _ | exact chain_part (one1_pos _) (one1_pos _) (one1_pos _) | (unfold Chain; omega)
theorem order_in {K : Ex → PS → Prop} (a b c : LineS) (ha : inL a) (hb : inL b) (hc : inL c) (f : Int) (v5 : Nat) (v1 v15 v16 v17 : PV) (il : List Int) (hil : il.length ≤ 100) : ∀ (rest : List Int) (k : Nat) (s : PS), il.drop k = rest → k ≤ il.length →
    s.t 8 = .c (.int .i64 f) → s.t 22 = .c (encIL il) → s.t 23 = .c (.int .i64 il.length) → s.t 24 = .c (.int .i64 k) → s.t 5 = .ptr 5 v5 0 → s.bx 5 = ⟨v5, .var (encLn a ++ (encLn b ++ encLn c))⟩ → s.t 1 = v1 → s.t 15 = v15 → s.t 16 = v16 → s.t 17 = v17 →
    (∀ s', s'.t 5 = .ptr 5 v5 0 → s'.bx 5 = ⟨v5, .var (encLn a ++ (encLn b ++ encLn c))⟩ → s'.t 1 = v1 → s'.t 15 = v15 → s'.t 16 = v16 → s'.t 17 = v17 → K (.x 2) s') → wP (PCallG Try.prog) (.loop b11_1) s K := by
  intro rest
  induction rest with
  | nil =>
    intro k s hd hk t8 t22 t23 t24 t5 b5 t1 t15 t16 t17 hx
    refine w_loop ?_
    have hk' := get_iend hd hk
    subst hk'
    rw [← put_same t8, ← put_same t22, ← put_same t23, ← put_same t24, ← put_same t5, ← box_same b5, ← put_same t1, ← put_same t15, ← put_same t16, ← put_same t17]
    unfold b11_1 r11_5 r11_6 r11_7 r11_8 r11_9 r11_10 r11_11 r11_12
    repeat' (first
      | refine w_seq ?_
      | refine w_ops ?_
      | refine st_nil ?_
      | refine th_n ?_
      | refine th_x ?_
      | refine w_exit ?_
      | refine w_false rfl ?_
      | refine lss_f rfl rfl (by omega) ?_)
    exact hx _ rfl rfl rfl rfl rfl rfl
  | cons i rest ih =>
    intro k s hd hk t8 t22 t23 t24 t5 b5 t1 t15 t16 t17 hx
    refine w_loop ?_
    have he := get_int hd
    have hkl := get_ilen hd
    have hn := get_inext hd
    have c1 := C_Ahead f i a b ha hb
    have c2 := C_Ahead f i b c hb hc
    have c3 := C_Ahead f i a c ha hc
    have c4 := C_rAhead f i a b ha hb
    have c5 := C_Ahead f i b a hb ha
    rw [aheadC_neg f i a b] at c5
    obtain ⟨p1, p2⟩ := aheadC_in f i a b
    obtain ⟨q1, q2⟩ := aheadC_in f i b c
    obtain ⟨r1, r2⟩ := aheadC_in f i a c
    obtain ⟨h1, h2⟩ := aheadC_chain f i a b c
    generalize aheadC f i a b = p at *
    generalize aheadC f i b c = q at *
    generalize aheadC f i a c = r at *
    rw [← put_same t8, ← put_same t22, ← put_same t23, ← put_same t24, ← put_same t5, ← box_same b5, ← put_same t1, ← put_same t15, ← put_same t16, ← put_same t17]
    have hp : p = -1 ∨ p = 0 ∨ p = 1 := by omega
    have hq : q = -1 ∨ q = 0 ∨ q = 1 := by omega
    have hr : r = -1 ∨ r = 0 ∨ r = 1 := by omega
    have fin : ∀ s', s'.t 8 = .c (.int .i64 f) → s'.t 22 = .c (encIL il) → s'.t 23 = .c (.int .i64 il.length) → s'.t 24 = .c (.int .i64 (k + 1)) → s'.t 5 = .ptr 5 v5 0 → s'.bx 5 = ⟨v5, .var (encLn a ++ (encLn b ++ encLn c))⟩ → s'.t 1 = v1 → s'.t 15 = v15 → s'.t 16 = v16 → s'.t 17 = v17 → wP (PCallG Try.prog) (.loop b11_1) s' K :=
      fun s' g8 g22 g23 g24 g5 gb g1 g15 g16 g17 => ih (k + 1) s' hn (by omega) g8 g22 g23 g24 g5 gb g1 g15 g16 g17 hx
    unfold b11_1 r11_5 r11_6 r11_7 r11_8 r11_9 r11_10 r11_11 r11_12
    rcases hp with rfl | rfl | rfl <;> rcases hq with rfl | rfl | rfl <;> rcases hr with rfl | rfl | rfl <;>
      first
        | (exfalso; omega)
        | skip
    all_goals clear h1 h2 hx ih
    all_goals
      repeat' (first
        | refine call4 rfl rfl rfl rfl c1 ?_
        | refine call4 rfl rfl rfl rfl c2 ?_
        | refine call4 rfl rfl rfl rfl c3 ?_
        | refine call4 rfl rfl rfl rfl c4 ?_
        | refine call4 rfl rfl rfl rfl c5 ?_
        | refine w_seq ?_
        | refine w_ops ?_
        | refine w_opsD0 rfl ?_
        | refine st_nil ?_
        | refine th_n ?_
        | refine bk_n ?_
        | refine w_block ?_
        | refine w_skip ?_
        | refine w_true rfl ?_
        | refine w_false rfl ?_
        | refine g_yes rfl ?_
        | refine g_no rfl ?_
        | refine g_un rfl ?_
        | refine mv_c rfl ?_
        | refine pick_t rfl rfl ?_
        | refine pick_f rfl rfl ?_
        | refine lss_t rfl rfl (by omega) ?_
        | refine lss_f rfl rfl (by omega) ?_
        | refine leq_t rfl rfl (by omega) ?_
        | refine leq_f rfl rfl (by omega) ?_
        | refine gtr_f rfl rfl (by omega) ?_
        | refine geq_t rfl rfl (by omega) ?_
        | refine geq_f rfl rfl (by omega) ?_
        | refine eql_t rfl rfl (by omega) ?_
        | refine eql_f rfl rfl (by omega) ?_
        | refine neq_f rfl rfl (by omega) ?_
        | refine neg_in rfl (by omega) ?_
        | refine add_in rfl rfl (by omega) ?_
        | refine load_rp rfl (Nat.le_of_ble_eq_true rfl) rfl ?_
        | refine load_ptr rfl (by decide) rfl (Nat.le_of_ble_eq_true rfl) rfl ?_
        | refine iaA_ptr rfl rfl rfl (by omega) rfl ?_
        | refine iaS_c rfl rfl (by omega) (by assumption) rfl ?_)
    all_goals exact fin _ (by rfl) (by rfl) (by rfl) (by rfl) (by rfl) (by rfl) (by rfl) (by rfl) (by rfl) (by rfl)
theorem order_out {K : Ex → PS → Prop} (a b c : LineS) (ha : inL a) (hb : inL b) (hc : inL c) (m : Int) (v5 : Nat) (fl : List Int) (hfl : fl.length ≤ 100) : ∀ (rest : List Int) (k : Nat) (s : PS), fl.drop k = rest → k ≤ fl.length →
    s.t 1 = .c (.int .i64 m) → s.t 15 = .c (encIL fl) → s.t 16 = .c (.int .i64 fl.length) → s.t 17 = .c (.int .i64 k) → s.t 5 = .ptr 5 v5 0 → s.bx 5 = ⟨v5, .var (encLn a ++ (encLn b ++ encLn c))⟩ →
    (∀ s', K (.x 0) s') → wP (PCallG Try.prog) (.loop b11_0) s K := by
  intro rest
  induction rest with
  | nil =>
    intro k s hd hk t1 t15 t16 t17 t5 b5 hx
    refine w_loop ?_
    have hk' := get_iend hd hk
    subst hk'
    rw [← put_same t1, ← put_same t15, ← put_same t16, ← put_same t17, ← put_same t5, ← box_same b5]
    unfold b11_0 r11_2 r11_3 r11_4 r11_13
    repeat' (first
      | refine w_seq ?_
      | refine w_ops ?_
      | refine st_nil ?_
      | refine th_n ?_
      | refine th_x ?_
      | refine w_exit ?_
      | refine w_false rfl ?_
      | refine lss_f rfl rfl (by omega) ?_)
    exact hx _
  | cons f rest ih =>
    intro k s hd hk t1 t15 t16 t17 t5 b5 hx
    refine w_loop ?_
    have he := get_int hd
    have hkl := get_ilen hd
    have hn := get_inext hd
    rw [← put_same t1, ← put_same t15, ← put_same t16, ← put_same t17, ← put_same t5, ← box_same b5]
    unfold b11_0 r11_2 r11_3 r11_4 r11_13
    repeat' (first
      | refine len_sl (n := 3) rfl rfl ?_
      | refine w_seq ?_
      | refine w_ops ?_
      | refine st_nil ?_
      | refine th_n ?_
      | refine w_block ?_
      | refine w_skip ?_
      | refine w_true rfl ?_
      | refine mv_c rfl ?_
      | refine lss_t rfl rfl (by omega) ?_
      | refine bsl_ rfl rfl ?_
      | refine load_rp rfl (Nat.le_of_ble_eq_true rfl) rfl ?_
      | refine iaS_c rfl rfl (by omega) (by assumption) rfl ?_)
    refine order_in a b c ha hb hc f v5 _ _ _ _ [m, 0, 1] (by simp) [m, 0, 1] 0 _ rfl (by simp) (by rfl) (by rfl) (by rfl) (by rfl) (by rfl) (by rfl) (by rfl) (by rfl) (by rfl) (by rfl) ?_
    intro s' u5 w5 u1 u15 u16 u17
    rw [← put_same u5, ← box_same w5, ← put_same u1, ← put_same u15, ← put_same u16, ← put_same u17]
    repeat' (first
      | refine w_ops ?_
      | refine st_nil ?_
      | refine th_n ?_
      | refine bk_n ?_
      | refine bk_x ?_
      | refine mv_c rfl ?_
      | refine add_in rfl rfl (by omega) ?_)
    exact ih (k + 1) _ hn (by omega) (by rfl) (by rfl) (by rfl) (by rfl) (by rfl) (by rfl) hx
theorem C_CellOrder (f m : Int) (a b c : LineS) (ha : inL a) (hb : inL b) (hc : inL c) : PCallG Try.prog 11 [.c (.int .i64 f), .c (.int .i64 m), .c (.agg (encLn a ++ (encLn b ++ encLn c)))] (.c (.bool true)) [] := by
  refine pcallF Try.func11 c11 rfl ?_
  have hw := C_wakes9
  unfold p11 r11_0 r11_1 r11_14
  repeat' (first
    | refine len_sl (n := 6) rfl rfl ?_
    | refine w_seq ?_
    | refine w_ops ?_
    | refine st_nil ?_
    | refine th_n ?_
    | refine w_block ?_
    | refine mv_c rfl ?_
    | refine box_ rfl rfl rfl (fun u => ?_)
    | refine bsl_ rfl rfl ?_)
  refine order_out a b c ha hb hc m _ [f, 1, 2, 3, 4, 5] (by simp) [f, 1, 2, 3, 4, 5] 0 _ rfl (by simp) (by rfl) (by rfl) (by rfl) (by rfl) (by rfl) (by rfl) ?_
  intro s'
  repeat' (first
    | refine call0 hw ?_
    | refine w_seq ?_
    | refine w_ops ?_
    | refine st_nil ?_
    | refine th_n ?_
    | refine bk_x ?_
    | refine w_ret ?_
    | refine mv_c rfl ?_)
  exact fin_r rfl rfl
theorem okL_cons {k : LF} {ks : List LF} {cs : List CV} (h : OkL (k :: ks) cs) : ∃ c r, cs = c :: r ∧ LF.Ok k c ∧ OkL ks r := by
  obtain ⟨hl, he⟩ := h
  match cs, hl, he with
  | c :: r, hl, he => exact ⟨c, r, rfl, he 0 (by simp) (by simp), ⟨by simpa using hl, fun i h1 h2 => he (i + 1) (by simpa using h1) (by simpa using h2)⟩⟩
theorem okL_nil {cs : List CV} (h : OkL [] cs) : cs = [] := by
  obtain ⟨hl, _⟩ := h
  exact List.length_eq_zero_iff.mp hl
theorem L_CellOrder (c0 : CV) (h0 : LF.Ok (.int .i64) c0) (c1 : CV) (h1 : LF.Ok (.int .i64) c1) (cs : List CV)
    (h2 : OkL [.int .u8, .int .u8, .int .u8, .int .u8, .int .i64, .int .i64, .int .i64, .int .i64, .int .i64, .int .i64, .int .i64, .int .u8, .int .u8, .int .u8, .int .u8, .int .i64, .int .i64, .int .i64, .int .i64, .int .i64, .int .i64, .int .i64, .int .u8, .int .u8, .int .u8, .int .u8, .int .i64, .int .i64, .int .i64, .int .i64, .int .i64, .int .i64, .int .i64] cs) :
    PCallG Try.prog 11 [.c c0, .c c1, .c (.agg cs)] (.c (.bool true)) [] := by
  obtain ⟨f, rfl, _⟩ := ok_i64 h0
  obtain ⟨m, rfl, _⟩ := ok_i64 h1
  obtain ⟨x0, r0, rfl, j0, k0⟩ := okL_cons h2; obtain ⟨a0, rfl, i0⟩ := ok_u8 j0
  obtain ⟨x1, r1, rfl, j1, k1⟩ := okL_cons k0; obtain ⟨a1, rfl, i1⟩ := ok_u8 j1
  obtain ⟨x2, r2, rfl, j2, k2⟩ := okL_cons k1; obtain ⟨a2, rfl, i2⟩ := ok_u8 j2
  obtain ⟨x3, r3, rfl, j3, k3⟩ := okL_cons k2; obtain ⟨a3, rfl, i3⟩ := ok_u8 j3
  obtain ⟨x4, r4, rfl, j4, k4⟩ := okL_cons k3; obtain ⟨a4, rfl, i4⟩ := ok_i64 j4
  obtain ⟨x5, r5, rfl, j5, k5⟩ := okL_cons k4; obtain ⟨a5, rfl, i5⟩ := ok_i64 j5
  obtain ⟨x6, r6, rfl, j6, k6⟩ := okL_cons k5; obtain ⟨a6, rfl, i6⟩ := ok_i64 j6
  obtain ⟨x7, r7, rfl, j7, k7⟩ := okL_cons k6; obtain ⟨a7, rfl, i7⟩ := ok_i64 j7
  obtain ⟨x8, r8, rfl, j8, k8⟩ := okL_cons k7; obtain ⟨a8, rfl, i8⟩ := ok_i64 j8
  obtain ⟨x9, r9, rfl, j9, k9⟩ := okL_cons k8; obtain ⟨a9, rfl, i9⟩ := ok_i64 j9
  obtain ⟨x10, r10, rfl, j10, k10⟩ := okL_cons k9; obtain ⟨a10, rfl, i10⟩ := ok_i64 j10
  obtain ⟨x11, r11, rfl, j11, k11⟩ := okL_cons k10; obtain ⟨a11, rfl, i11⟩ := ok_u8 j11
  obtain ⟨x12, r12, rfl, j12, k12⟩ := okL_cons k11; obtain ⟨a12, rfl, i12⟩ := ok_u8 j12
  obtain ⟨x13, r13, rfl, j13, k13⟩ := okL_cons k12; obtain ⟨a13, rfl, i13⟩ := ok_u8 j13
  obtain ⟨x14, r14, rfl, j14, k14⟩ := okL_cons k13; obtain ⟨a14, rfl, i14⟩ := ok_u8 j14
  obtain ⟨x15, r15, rfl, j15, k15⟩ := okL_cons k14; obtain ⟨a15, rfl, i15⟩ := ok_i64 j15
  obtain ⟨x16, r16, rfl, j16, k16⟩ := okL_cons k15; obtain ⟨a16, rfl, i16⟩ := ok_i64 j16
  obtain ⟨x17, r17, rfl, j17, k17⟩ := okL_cons k16; obtain ⟨a17, rfl, i17⟩ := ok_i64 j17
  obtain ⟨x18, r18, rfl, j18, k18⟩ := okL_cons k17; obtain ⟨a18, rfl, i18⟩ := ok_i64 j18
  obtain ⟨x19, r19, rfl, j19, k19⟩ := okL_cons k18; obtain ⟨a19, rfl, i19⟩ := ok_i64 j19
  obtain ⟨x20, r20, rfl, j20, k20⟩ := okL_cons k19; obtain ⟨a20, rfl, i20⟩ := ok_i64 j20
  obtain ⟨x21, r21, rfl, j21, k21⟩ := okL_cons k20; obtain ⟨a21, rfl, i21⟩ := ok_i64 j21
  obtain ⟨x22, r22, rfl, j22, k22⟩ := okL_cons k21; obtain ⟨a22, rfl, i22⟩ := ok_u8 j22
  obtain ⟨x23, r23, rfl, j23, k23⟩ := okL_cons k22; obtain ⟨a23, rfl, i23⟩ := ok_u8 j23
  obtain ⟨x24, r24, rfl, j24, k24⟩ := okL_cons k23; obtain ⟨a24, rfl, i24⟩ := ok_u8 j24
  obtain ⟨x25, r25, rfl, j25, k25⟩ := okL_cons k24; obtain ⟨a25, rfl, i25⟩ := ok_u8 j25
  obtain ⟨x26, r26, rfl, j26, k26⟩ := okL_cons k25; obtain ⟨a26, rfl, i26⟩ := ok_i64 j26
  obtain ⟨x27, r27, rfl, j27, k27⟩ := okL_cons k26; obtain ⟨a27, rfl, i27⟩ := ok_i64 j27
  obtain ⟨x28, r28, rfl, j28, k28⟩ := okL_cons k27; obtain ⟨a28, rfl, i28⟩ := ok_i64 j28
  obtain ⟨x29, r29, rfl, j29, k29⟩ := okL_cons k28; obtain ⟨a29, rfl, i29⟩ := ok_i64 j29
  obtain ⟨x30, r30, rfl, j30, k30⟩ := okL_cons k29; obtain ⟨a30, rfl, i30⟩ := ok_i64 j30
  obtain ⟨x31, r31, rfl, j31, k31⟩ := okL_cons k30; obtain ⟨a31, rfl, i31⟩ := ok_i64 j31
  obtain ⟨x32, r32, rfl, j32, k32⟩ := okL_cons k31; obtain ⟨a32, rfl, i32⟩ := ok_i64 j32
  obtain rfl := okL_nil k32
  exact C_CellOrder f m ⟨a0, a1, a2, a3, a4, a5, a6, a7, a8, a9, a10⟩ ⟨a11, a12, a13, a14, a15, a16, a17, a18, a19, a20, a21⟩ ⟨a22, a23, a24, a25, a26, a27, a28, a29, a30, a31, a32⟩ ⟨i4, i5, i6, i7, i8, i9, i10⟩ ⟨i15, i16, i17, i18, i19, i20, i21⟩ ⟨i26, i27, i28, i29, i30, i31, i32⟩
end Go.Proofs.Ytcmejdkjfekoeaa

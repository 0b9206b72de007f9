import Derived.Test.YtcmejdkjfekoeaaCBag
namespace Go.Proofs.Ytcmejdkjfekoeaa
open Go.Pl
set_option maxHeartbeats 4000000

def I64 (a : Int) : Prop := -9223372036854775808 ≤ a ∧ a ≤ 9223372036854775807
instance (a : Int) : Decidable (I64 a) := by unfold I64; infer_instance
def absI (a : Int) : Int := if a < 0 then -a else a

theorem C_Size (a : Int) (ha : I64 a) : PCallG Try.prog 119 [.c (.int .i64 a)] (.c (.int .u64 (absI a))) [] := by
  obtain ⟨h1, h2⟩ := ha
  refine pcallF Try.func119 c119 rfl ?_
  unfold p119 r119_0 r119_1 r119_2 r119_3
  by_cases h : a < 0
  · repeat' (first
    | refine w_seq ?_
    | refine w_ops ?_
    | refine st_nil ?_
    | refine th_n ?_
    | refine th_r ?_
    | refine w_skip ?_
    | refine w_ret ?_
    | refine w_true rfl ?_
    | refine w_false rfl ?_
    | refine w_condd rfl (fun hc => ?_) (fun hc => ?_)
    | refine w_cond rfl (fun hc => ?_) (fun hc => ?_)
    | refine mv_c rfl ?_
    | refine mv_ptr rfl ?_
    | refine mv_rp rfl ?_
    | refine mv_osl rfl ?_
    | refine mv_sp rfl ?_
    | refine mv_undef rfl ?_
    | refine lss_t rfl rfl (by omega) ?_
    | refine lss_f rfl rfl (by omega) ?_
    | refine lss_ rfl rfl ?_
    | refine conv_in rfl (wrapu_in (by omega)) ?_
    | refine conv_u rfl ?_
    | refine conv_in rfl (wrap64_in (by omega)) ?_
    | refine conv_s rfl (wrap64_hi (by omega)) ?_
    | refine neg_in rfl (by omega) ?_
    | refine negu_ rfl ?_
    | refine conv_ rfl ?_
    | refine un_ rfl rfl ?_
    | refine bin_ rfl rfl rfl ?_)
    refine fin_r rfl ?_
    have : -(a % 18446744073709551616) % 18446744073709551616 = -a := by omega
    simp [one_, absI, h, this]
  · repeat' (first
    | refine w_seq ?_
    | refine w_ops ?_
    | refine st_nil ?_
    | refine th_n ?_
    | refine th_r ?_
    | refine w_skip ?_
    | refine w_ret ?_
    | refine w_true rfl ?_
    | refine w_false rfl ?_
    | refine w_condd rfl (fun hc => ?_) (fun hc => ?_)
    | refine w_cond rfl (fun hc => ?_) (fun hc => ?_)
    | refine mv_c rfl ?_
    | refine mv_ptr rfl ?_
    | refine mv_rp rfl ?_
    | refine mv_osl rfl ?_
    | refine mv_sp rfl ?_
    | refine mv_undef rfl ?_
    | refine lss_t rfl rfl (by omega) ?_
    | refine lss_f rfl rfl (by omega) ?_
    | refine lss_ rfl rfl ?_
    | refine conv_in rfl (wrapu_in (by omega)) ?_
    | refine conv_u rfl ?_
    | refine conv_in rfl (wrap64_in (by omega)) ?_
    | refine conv_s rfl (wrap64_hi (by omega)) ?_
    | refine neg_in rfl (by omega) ?_
    | refine negu_ rfl ?_
    | refine conv_ rfl ?_
    | refine un_ rfl rfl ?_
    | refine bin_ rfl rfl rfl ?_)
    exact fin_r rfl (by simp [one_, absI, h])

theorem halves (x y : Int) (x0 x1 y0 y1 : Int) (hx : x = x1 * 4294967296 + x0) (hy : y = y1 * 4294967296 + y0) :
    x * y = (x1 * y1) * 18446744073709551616 + (x1 * y0) * 4294967296 + (x0 * y1) * 4294967296 + x0 * y0 := by
  subst hx hy
  simp only [Int.add_mul, Int.mul_add]
  have e1 : x1 * 4294967296 * (y1 * 4294967296) = (x1 * y1) * 18446744073709551616 := by
    rw [Int.mul_assoc, Int.mul_left_comm 4294967296 y1, ← Int.mul_assoc]; rfl
  have e2 : x1 * 4294967296 * y0 = (x1 * y0) * 4294967296 := by rw [Int.mul_assoc, Int.mul_comm 4294967296, ← Int.mul_assoc]
  have e3 : x0 * (y1 * 4294967296) = (x0 * y1) * 4294967296 := by rw [Int.mul_assoc]
  omega

theorem prod_le {a b m : Int} (ha : 0 ≤ a) (ha' : a ≤ m) (hb : 0 ≤ b) (hb' : b ≤ m) : 0 ≤ a * b ∧ a * b ≤ m * m :=
  ⟨Int.mul_nonneg ha hb, Int.mul_le_mul ha' hb' hb (by omega)⟩

def mul64 (x y : Int) : CV := .tup [.int .u64 (x * y / 18446744073709551616), .int .u64 (x * y % 18446744073709551616)]

theorem C_Mul64 (x y : Int) (hx : 0 ≤ x ∧ x ≤ 18446744073709551615) (hy : 0 ≤ y ∧ y ≤ 18446744073709551615) : PCallG Try.prog 118 [.c (.int .u64 x), .c (.int .u64 y)] (.c (mul64 x y)) [] := by
  refine pcallF Try.func118 c118 rfl ?_
  unfold p118 r118_0 r118_1 r118_2 r118_3 r118_4 r118_5 r118_6 r118_7 r118_8 r118_9 r118_10 r118_11
  have e := halves x y (x % 4294967296) (x / 4294967296) (y % 4294967296) (y / 4294967296) (by omega) (by omega)
  have b00 := prod_le (a := x % 4294967296) (b := y % 4294967296) (m := 4294967295) (by omega) (by omega) (by omega) (by omega)
  have b10 := prod_le (a := x / 4294967296) (b := y % 4294967296) (m := 4294967295) (by omega) (by omega) (by omega) (by omega)
  have b01 := prod_le (a := x % 4294967296) (b := y / 4294967296) (m := 4294967295) (by omega) (by omega) (by omega) (by omega)
  have b11 := prod_le (a := x / 4294967296) (b := y / 4294967296) (m := 4294967295) (by omega) (by omega) (by omega) (by omega)
  have hp32 : (2 : Int) ^ 32 = 4294967296 := by decide
  have step : ∀ {C : CallP} {l : List POp} {s : PS} {K : PS → Prop} {d : Nat} {u v : PO} {a : Int}, s.ev u = .c (.int .u64 a) → s.ev v = .c (.int .u64 4294967295) → (0 ≤ a ∧ a ≤ 18446744073709551615) → wL C l (s.put d (.c (.int .u64 (a % 4294967296)))) K → wL C (⟨some d, .bin .and u v, none⟩ :: l) s K :=
    fun h1 h2 h3 h4 => and_mask 32 (by decide) (by decide) h1 h2 h3 (by rw [hp32]; exact h4)
  repeat' (first
    | refine step rfl rfl (by omega) ?_
    | refine w_seq ?_
    | refine w_ops ?_
    | refine st_nil ?_
    | refine th_n ?_
    | refine th_r ?_
    | refine w_ret ?_
    | refine mv_c rfl ?_
    | refine mv_ptr rfl ?_
    | refine mv_rp rfl ?_
    | refine mv_osl rfl ?_
    | refine mv_sp rfl ?_
    | refine mv_undef rfl ?_
    | refine addu_in rfl rfl (by omega) ?_
    | refine mulu_in rfl rfl (by first | assumption | omega) ?_
    | refine mul_in rfl rfl (by first | assumption | omega) ?_
    | refine shr_n (n := 32) (m := 4294967296) rfl rfl (by decide) (by decide) ?_
    | refine shr_n (n := 63) (m := 9223372036854775808) rfl rfl (by decide) (by decide) ?_
    | refine and_mask 32 (m := 4294967295) (by decide) (by decide) rfl rfl (by omega) ?_
    | refine add_in rfl rfl (by omega) ?_
    | refine mulu_ rfl rfl ?_
    | refine addu_ rfl rfl ?_
    | refine bin_ rfl rfl rfl ?_)
  refine fin_r rfl ?_
  simp only [one_, mul64]
  generalize x * y = p at *
  generalize (x / 4294967296) * (y / 4294967296) = q11 at *
  generalize (x / 4294967296) * (y % 4294967296) = q10 at *
  generalize (x % 4294967296) * (y / 4294967296) = q01 at *
  generalize (x % 4294967296) * (y % 4294967296) = q00 at *
  congr 3
  omega

section
variable {C : CallP} {l : List POp} {s : PS} {K : PS → Prop} {d : Nat} {xs : List PO} {a b c : Int}
theorem adc_ (hx : evcs s xs = some [.int .u64 a, .int .u64 b, .int .u64 c]) (hc : 0 ≤ a ∧ 0 ≤ b ∧ 0 ≤ c ∧ c ≤ 1)
    (h : wL C l (s.put d (.c (.tup [.int .u64 ((a + b + c) % 18446744073709551616), .int .u64 ((a + b + c) / 18446744073709551616)]))) K) : wL C (⟨some d, .xf .adc xs, none⟩ :: l) s K :=
  xf_ hx (by simp only [xfC, if_pos hc]; rfl) h
theorem sbc_ (hx : evcs s xs = some [.int .u64 a, .int .u64 b, .int .u64 c]) (hc : 0 ≤ a ∧ 0 ≤ b ∧ b < 18446744073709551616 ∧ 0 ≤ c ∧ c ≤ 1)
    (h : ∀ bo : Int, (a < b + c ∧ bo = 1) ∨ (b + c ≤ a ∧ bo = 0) → wL C l (s.put d (.c (.tup [.int .u64 ((a - b - c) % 18446744073709551616), .int .u64 bo]))) K) : wL C (⟨some d, .xf .sbc xs, none⟩ :: l) s K :=
  xf_ hx (by have hc' : 0 ≤ a ∧ 0 ≤ b ∧ b < m64 ∧ 0 ≤ c ∧ c ≤ 1 := hc
             simp only [xfC, if_pos hc']; rfl) (h _ (by split <;> omega))
end

/-- a number of 128 bits -/
def W128 (z : Int) : Prop := -170141183460469231731687303715884105728 ≤ z ∧ z ≤ 170141183460469231731687303715884105727
def cellsW (z : Int) : List CV := [.int .i64 (z / 18446744073709551616), .int .u64 (z % 18446744073709551616)]
def encW (z : Int) : CV := .agg (cellsW z)

theorem encW_eq {z hi lo : Int} (h1 : hi = z / 18446744073709551616) (h2 : lo = z % 18446744073709551616) : CV.agg (cellsW z) = one_ [.agg [.int .i64 hi, .int .u64 lo]] := by
  subst h1 h2; rfl

theorem abs_prod (a b : Int) : absI a * absI b = if (a < 0) ≠ (b < 0) then -(a * b) else a * b := by
  unfold absI
  by_cases h1 : a < 0 <;> by_cases h2 : b < 0 <;> simp [h1, h2, Int.neg_mul, Int.mul_neg]

theorem absI_in {a : Int} (h : I64 a) : 0 ≤ absI a ∧ absI a ≤ 9223372036854775808 := by
  obtain ⟨h1, h2⟩ := h
  unfold absI; split <;> omega

theorem wrap_i64 (n : Int) : IntKind.i64.wrap n = (n + 9223372036854775808) % 18446744073709551616 - 9223372036854775808 := by
  simp [IntKind.wrap, IntKind.bits, IntKind.signed]
  omega

theorem C_Plus (z a b : Int) (hz : W128 z) (ha : I64 a) (hb : I64 b) (hr : W128 (z + a * b)) : PCallG Try.prog 90 [.c (encW z), .c (.int .i64 a), .c (.int .i64 b)] (.c (encW (z + a * b))) [] := by
  obtain ⟨hz1, hz2⟩ := hz
  obtain ⟨hr1, hr2⟩ := hr
  have hA := absI_in ha
  have hB := absI_in hb
  have hp := prod_le hA.1 hA.2 hB.1 hB.2
  have hab := abs_prod a b
  have hS1 := C_Size a ha
  have hS2 := C_Size b hb
  have hM := C_Mul64 (absI a) (absI b) (by omega) (by omega)
  unfold mul64 at hM
  generalize absI a * absI b = p at hp hab hM
  generalize a * b = q at hr1 hr2 hab
  refine pcallF Try.func90 c90 rfl ?_
  unfold p90 r90_0 r90_1 r90_2 r90_3 r90_4 r90_5 r90_6 r90_7 r90_8
  unfold encW
  have hx : (decide (a < 0) == decide (b < 0)) = true → p = q := fun e => by
    have e : (a < 0) = (b < 0) := by simpa using e
    simpa [e] using hab
  have hy : (decide (a < 0) == decide (b < 0)) = false → p = -q := fun e => by
    have e : ¬ ((a < 0) ↔ (b < 0)) := by simpa using e
    by_cases h1 : a < 0 <;> by_cases h2 : b < 0 <;> simp_all
  repeat' (first
    | refine call1 rfl hS1 ?_
    | refine call1 rfl hS2 ?_
    | refine call2 rfl rfl hM ?_
    | refine adc_ rfl (by omega) ?_
    | refine sbc_ rfl (by omega) (fun bo hbo => ?_)
    | refine w_seq ?_
    | refine w_ops ?_
    | refine st_nil ?_
    | refine th_n ?_
    | refine th_r ?_
    | refine w_skip ?_
    | refine w_ret ?_
    | refine w_true rfl ?_
    | refine w_false rfl ?_
    | refine w_condd rfl (fun hc => ?_) (fun hc => ?_)
    | refine w_cond rfl (fun hc => ?_) (fun hc => ?_)
    | refine mv_c rfl ?_
    | refine mv_ptr rfl ?_
    | refine mv_rp rfl ?_
    | refine mv_osl rfl ?_
    | refine mv_sp rfl ?_
    | refine mv_undef rfl ?_
    | refine lss_ rfl rfl ?_
    | refine eqlB_ rfl rfl ?_
    | refine neqB_ rfl rfl ?_
    | refine conv_in rfl (wrapu_in (by omega)) ?_
    | refine conv_u rfl ?_
    | refine conv_in rfl (wrap64_in (by omega)) ?_
    | refine conv_s rfl (wrap64_hi (by omega)) ?_
    | refine alloc_ (fun u => ?_)
    | refine box_ rfl rfl rfl (fun u => ?_)
    | refine build_ rfl rfl ?_
    | refine load_rp rfl (Nat.le_of_ble_eq_true rfl) rfl ?_
    | refine load_ptr rfl (by decide) rfl (Nat.le_of_ble_eq_true rfl) rfl ?_
    | refine load_sp rfl (by decide) rfl (by assumption) (Nat.le_of_ble_eq_true rfl) rfl ?_
    | refine store_ptr rfl rfl (by decide) rfl rfl (Nat.le_of_ble_eq_true rfl) rfl ?_
    | refine store_sp rfl rfl (by decide) rfl (by assumption) rfl (Nat.le_of_ble_eq_true rfl) rfl ?_
    | refine fad_ptr rfl rfl rfl ?_
    | refine fad_rp rfl (Nat.le_of_ble_eq_true rfl) rfl ?_
    | refine fad_sp rfl rfl rfl ?_
    | refine ext_ rfl rfl ?_
    | refine conv_ rfl ?_
    | refine eqs_t rfl rfl rfl ?_
    | refine eqs_f rfl rfl rfl ?_
    | refine xf_ rfl rfl ?_
    | refine bin_ rfl rfl rfl ?_)
  · have hpq := hy (by simpa using hc)
    refine fin_r (rv_cell rfl rfl rfl rfl rv_nil) ?_
    refine encW_eq ?_ ?_
    · rw [wrap_i64]; omega
    · omega
  · have hpq := hx (by simpa using hc)
    refine fin_r (rv_cell rfl rfl rfl rfl rv_nil) ?_
    refine encW_eq ?_ ?_
    · rw [wrap_i64]; omega
    · omega

theorem C_Int (z : Int) (hz : W128 z) : PCallG Try.prog 89 [.c (encW z)] (.c (if I64 z then .tup [.int .i64 z, .bool true] else .tup [.int .i64 0, .bool false])) [] := by
  obtain ⟨hz1, hz2⟩ := hz
  refine pcallF Try.func89 c89 rfl ?_
  unfold p89 r89_0 r89_1 r89_2 r89_3 r89_4
  unfold encW
  have hw : IntKind.i64.wrap (z % 18446744073709551616) = z ∨ ¬ I64 z := by
    rw [wrap_i64]; unfold I64; omega
  by_cases h : z % 18446744073709551616 < 9223372036854775808
  all_goals
    repeat' (first
      | refine w_seq ?_
      | refine w_ops ?_
      | refine st_nil ?_
      | refine th_n ?_
      | refine th_r ?_
      | refine w_skip ?_
      | refine w_ret ?_
      | refine w_true rfl ?_
      | refine w_false rfl ?_
      | refine w_condd rfl (fun hc => ?_) (fun hc => ?_)
      | refine w_cond rfl (fun hc => ?_) (fun hc => ?_)
      | refine mv_c rfl ?_
      | refine mv_ptr rfl ?_
      | refine mv_rp rfl ?_
      | refine mv_osl rfl ?_
      | refine mv_sp rfl ?_
      | refine mv_undef rfl ?_
      | refine neq_t rfl rfl (by omega) ?_
      | refine neq_f rfl rfl (by omega) ?_
      | refine ned_ rfl rfl ?_
      | refine shr_n (n := 32) (m := 4294967296) rfl rfl (by decide) (by decide) ?_
      | refine shr_n (n := 63) (m := 9223372036854775808) rfl rfl (by decide) (by decide) ?_
      | refine conv_in rfl (wrapu_in (by omega)) ?_
      | refine conv_u rfl ?_
      | refine conv_in rfl (wrap64_in (by omega)) ?_
      | refine conv_s rfl (wrap64_hi (by omega)) ?_
      | refine box_ rfl rfl rfl (fun u => ?_)
      | refine load_rp rfl (Nat.le_of_ble_eq_true rfl) rfl ?_
      | refine load_ptr rfl (by decide) rfl (Nat.le_of_ble_eq_true rfl) rfl ?_
      | refine load_sp rfl (by decide) rfl (by assumption) (Nat.le_of_ble_eq_true rfl) rfl ?_
      | refine fad_ptr rfl rfl rfl ?_
      | refine fad_rp rfl (Nat.le_of_ble_eq_true rfl) rfl ?_
      | refine fad_sp rfl rfl rfl ?_
      | refine conv_ rfl ?_
      | refine bin_ rfl rfl rfl ?_)
  all_goals
    refine fin_r rfl ?_
    simp only [one_]
    by_cases hI : I64 z
    · rw [if_pos hI]
      unfold I64 at hI
      first | (exfalso; omega) | (congr 3; omega)
    · first
        | (rw [if_neg hI]; done)
        | (exfalso; unfold I64 at hI; omega)
end Go.Proofs.Ytcmejdkjfekoeaa

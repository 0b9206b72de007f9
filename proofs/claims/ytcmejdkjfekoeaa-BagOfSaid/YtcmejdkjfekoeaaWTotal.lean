import Derived.Test.YtcmejdkjfekoeaaWCalc
namespace Go.Proofs.Ytcmejdkjfekoeaa
open Go.Pl
set_option maxHeartbeats 4000000

def encI (a : Int) : List CV := [.int .i64 a]
def encIL (l : List Int) : CV := .sl (l.map encI)
def totI : List Int → Int
  | [] => 0
  | a :: l => a + totI l
def I64s (l : List Int) : Prop := ∀ a ∈ l, I64 a

theorem total_loop {K : Ex → PS → Prop} (l : List Int) (v4 : Nat) (hlen : l.length < 1000000000) : ∀ (rest : List Int) (i : Nat) (z : Int) (s : PS), l.drop i = rest → i ≤ l.length → I64s rest →
    -(9223372036854775808 * (i : Int)) ≤ z → z ≤ 9223372036854775808 * (i : Int) →
    s.t 7 = .c (encIL l) → s.t 8 = .c (.int .i64 l.length) → s.t 9 = .c (.int .i64 i) → s.t 4 = .ptr 4 v4 0 → s.bx 4 = ⟨v4, .var (cellsW z)⟩ →
    (∀ s', s'.t 4 = .ptr 4 v4 0 → s'.bx 4 = ⟨v4, .var (cellsW (z + totI rest))⟩ → W128 (z + totI rest) → K (.x 0) s') → wP (PCallG Try.prog) (.loop b32_0) s K := by
  intro rest
  induction rest with
  | nil =>
    intro i z s hd hi hr h0 h1 t7 t8 t9 t4 b4 hx
    refine w_loop ?_
    have hi' : i = l.length := by have := List.drop_eq_nil_iff.mp hd; omega
    subst hi'
    rw [← put_same t8, ← put_same t9, ← put_same t4, ← box_same b4]
    unfold b32_0 r32_3 r32_4 r32_5 r32_6
    repeat' (first
      | refine w_seq ?_
      | refine w_ops ?_
      | refine st_nil ?_
      | refine th_n ?_
      | refine th_x ?_
      | refine th_r ?_
      | refine bk_n ?_
      | refine bk_r ?_
      | refine bk_x ?_
      | refine bk_y (by decide) ?_
      | refine w_block ?_
      | refine w_skip ?_
      | refine w_exit ?_
      | refine w_true rfl ?_
      | refine w_false rfl ?_
      | refine w_condd rfl (fun hc => ?_) (fun hc => ?_)
      | refine w_cond rfl (fun hc => ?_) (fun hc => ?_)
      | refine mv_c rfl ?_
      | refine mv_ptr rfl ?_
      | refine mv_rp rfl ?_
      | refine mv_osl rfl ?_
      | refine mv_sp rfl ?_
      | refine mv_undef rfl ?_
      | refine lss_t rfl rfl (by omega) ?_
      | refine lss_f rfl rfl (by omega) ?_
      | refine lss_ rfl rfl ?_
      | refine addu_in rfl rfl (by omega) ?_
      | refine add_in rfl rfl (by omega) ?_
      | refine load_rp rfl (Nat.le_of_ble_eq_true rfl) rfl ?_
      | refine load_ptr rfl (by decide) rfl (Nat.le_of_ble_eq_true rfl) rfl ?_
      | refine load_sp rfl (by decide) rfl (by assumption) (Nat.le_of_ble_eq_true rfl) rfl ?_
      | refine store_ptr rfl rfl (by decide) rfl rfl (Nat.le_of_ble_eq_true rfl) rfl ?_
      | refine store_sp rfl rfl (by decide) rfl (by assumption) rfl (Nat.le_of_ble_eq_true rfl) rfl ?_
      | refine iaS_c rfl rfl (by omega) (by assumption) rfl ?_
      | refine iaS_osl rfl rfl rfl (by omega) rfl ?_
      | refine iaS_osl rfl rfl rfl (by first | omega | (simp; omega)) rfl ?_
      | refine addu_ rfl rfl ?_
      | refine bin_ rfl rfl rfl ?_)
    exact hx _ (by rfl) (by simp only [totI, Int.add_zero]; rfl) (by simp only [totI, Int.add_zero]; constructor <;> omega)
  | cons a rest ih =>
    intro i z s hd hi hr h0 h1 t7 t8 t9 t4 b4 hx
    refine w_loop ?_
    have hl : i < l.length := by have := congrArg List.length hd; simp at this; omega
    have hn : l.drop (i + 1) = rest := by have := congrArg List.tail hd; simpa [List.tail_drop] using this
    have he : (l.map encI)[i]? = some (encI a) := by
      have : l[i]? = some a := by have := congrArg List.head? hd; simpa [List.head?_drop] using this
      simp [this]
    have ha := hr a (by simp)
    have hr' : I64s rest := fun b hb => hr b (by simp [hb])
    obtain ⟨a1, a2⟩ := ha
    have hP := C_Plus z a 1 (by constructor <;> omega) ⟨a1, a2⟩ (by constructor <;> omega) (by constructor <;> omega)
    rw [Int.mul_one] at hP
    have e : z + totI (a :: rest) = z + a + totI rest := by simp only [totI]; omega
    rw [e] at hx
    rw [← put_same t7, ← put_same t8, ← put_same t9, ← put_same t4, ← box_same b4]
    unfold b32_0 r32_3 r32_4 r32_5 r32_6
    repeat' (first
      | refine call3 rfl rfl rfl hP ?_
      | refine w_seq ?_
      | refine w_ops ?_
      | refine st_nil ?_
      | refine th_n ?_
      | refine th_x ?_
      | refine th_r ?_
      | refine bk_n ?_
      | refine bk_r ?_
      | refine bk_x ?_
      | refine bk_y (by decide) ?_
      | refine w_block ?_
      | refine w_skip ?_
      | refine w_exit ?_
      | refine w_true rfl ?_
      | refine w_false rfl ?_
      | refine w_condd rfl (fun hc => ?_) (fun hc => ?_)
      | refine w_cond rfl (fun hc => ?_) (fun hc => ?_)
      | refine mv_c rfl ?_
      | refine mv_ptr rfl ?_
      | refine mv_rp rfl ?_
      | refine mv_osl rfl ?_
      | refine mv_sp rfl ?_
      | refine mv_undef rfl ?_
      | refine lss_t rfl rfl (by omega) ?_
      | refine lss_f rfl rfl (by omega) ?_
      | refine lss_ rfl rfl ?_
      | refine addu_in rfl rfl (by omega) ?_
      | refine add_in rfl rfl (by omega) ?_
      | refine load_rp rfl (Nat.le_of_ble_eq_true rfl) rfl ?_
      | refine load_ptr rfl (by decide) rfl (Nat.le_of_ble_eq_true rfl) rfl ?_
      | refine load_sp rfl (by decide) rfl (by assumption) (Nat.le_of_ble_eq_true rfl) rfl ?_
      | refine store_ptr rfl rfl (by decide) rfl rfl (Nat.le_of_ble_eq_true rfl) rfl ?_
      | refine store_sp rfl rfl (by decide) rfl (by assumption) rfl (Nat.le_of_ble_eq_true rfl) rfl ?_
      | refine iaS_c rfl rfl (by omega) (by assumption) rfl ?_
      | refine iaS_osl rfl rfl rfl (by omega) rfl ?_
      | refine iaS_osl rfl rfl rfl (by first | omega | (simp; omega)) rfl ?_
      | refine addu_ rfl rfl ?_
      | refine bin_ rfl rfl rfl ?_)
    exact ih (i + 1) (z + a) _ hn (by omega) hr' (by omega) (by omega) (by rfl) (by rfl) (by rfl) (by rfl) (by rfl) hx

def totB (l : List Int) : CV := if I64 (totI l) then .tup [.int .i64 (totI l), .bool true] else .tup [.int .i64 0, .bool false]

theorem C_Total (l : List Int) (hlen : l.length < 1000000000) (hr : I64s l) : PCallG Try.prog 32 [.c (encIL l)] (.c (totB l)) [] := by
  refine pcallF Try.func32 c32 rfl ?_
  unfold p32 r32_0 r32_1 r32_2 r32_7
  repeat' (first
    | refine w_seq ?_
    | refine w_ops ?_
    | refine st_nil ?_
    | refine th_n ?_
    | refine th_r ?_
    | refine bk_n ?_
    | refine bk_r ?_
    | refine bk_x ?_
    | refine bk_y (by decide) ?_
    | refine w_block ?_
    | refine w_ret ?_
    | refine mv_c rfl ?_
    | refine mv_ptr rfl ?_
    | refine mv_rp rfl ?_
    | refine mv_osl rfl ?_
    | refine mv_sp rfl ?_
    | refine mv_undef rfl ?_
    | refine alloc_ (fun u => ?_)
    | refine load_rp rfl (Nat.le_of_ble_eq_true rfl) rfl ?_
    | refine load_ptr rfl (by decide) rfl (Nat.le_of_ble_eq_true rfl) rfl ?_
    | refine load_sp rfl (by decide) rfl (by assumption) (Nat.le_of_ble_eq_true rfl) rfl ?_
    | refine ext_ rfl rfl ?_
    | refine len_sl rfl (by first | assumption | exact List.length_map _) ?_
    | refine len_sl rfl rfl ?_
    | refine len_osl rfl rfl ?_
    | refine len_osl rfl rfl ?_)
  refine total_loop l _ hlen l 0 0 _ rfl (by omega) hr (by omega) (by omega) (by rfl) (by rfl) (by rfl) (by rfl) (by rfl) ?_
  intro s' t4 b4 hW
  rw [Int.zero_add] at b4 hW
  have hI := C_Int _ hW
  rw [← put_same t4, ← box_same b4]
  by_cases h : I64 (totI l)
  · rw [if_pos h] at hI
    repeat' (first
      | refine call1 rfl hI ?_
      | refine w_seq ?_
      | refine w_ops ?_
      | refine st_nil ?_
      | refine th_n ?_
      | refine th_r ?_
      | refine bk_n ?_
      | refine bk_r ?_
      | refine bk_x ?_
      | refine bk_y (by decide) ?_
      | refine w_block ?_
      | refine w_ret ?_
      | refine mv_c rfl ?_
      | refine mv_ptr rfl ?_
      | refine mv_rp rfl ?_
      | refine mv_osl rfl ?_
      | refine mv_sp rfl ?_
      | refine mv_undef rfl ?_
      | refine alloc_ (fun u => ?_)
      | refine load_rp rfl (Nat.le_of_ble_eq_true rfl) rfl ?_
      | refine load_ptr rfl (by decide) rfl (Nat.le_of_ble_eq_true rfl) rfl ?_
      | refine load_sp rfl (by decide) rfl (by assumption) (Nat.le_of_ble_eq_true rfl) rfl ?_
      | refine ext_ rfl rfl ?_
      | refine len_sl rfl (by first | assumption | exact List.length_map _) ?_
      | refine len_sl rfl rfl ?_
      | refine len_osl rfl rfl ?_
      | refine len_osl rfl rfl ?_)
    exact fin_r rfl (by simp [one_, totB, h])
  · rw [if_neg h] at hI
    repeat' (first
      | refine call1 rfl hI ?_
      | refine w_seq ?_
      | refine w_ops ?_
      | refine st_nil ?_
      | refine th_n ?_
      | refine th_r ?_
      | refine bk_n ?_
      | refine bk_r ?_
      | refine bk_x ?_
      | refine bk_y (by decide) ?_
      | refine w_block ?_
      | refine w_ret ?_
      | refine mv_c rfl ?_
      | refine mv_ptr rfl ?_
      | refine mv_rp rfl ?_
      | refine mv_osl rfl ?_
      | refine mv_sp rfl ?_
      | refine mv_undef rfl ?_
      | refine alloc_ (fun u => ?_)
      | refine load_rp rfl (Nat.le_of_ble_eq_true rfl) rfl ?_
      | refine load_ptr rfl (by decide) rfl (Nat.le_of_ble_eq_true rfl) rfl ?_
      | refine load_sp rfl (by decide) rfl (by assumption) (Nat.le_of_ble_eq_true rfl) rfl ?_
      | refine ext_ rfl rfl ?_
      | refine len_sl rfl (by first | assumption | exact List.length_map _) ?_
      | refine len_sl rfl rfl ?_
      | refine len_osl rfl rfl ?_
      | refine len_osl rfl rfl ?_)
    exact fin_r rfl (by simp [one_, totB, h])
end Go.Proofs.Ytcmejdkjfekoeaa

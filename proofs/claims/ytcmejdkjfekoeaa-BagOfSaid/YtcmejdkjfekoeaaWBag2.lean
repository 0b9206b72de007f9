import Derived.Test.YtcmejdkjfekoeaaWBag1
namespace Go.Proofs.Ytcmejdkjfekoeaa
open Go.Pl Go.Bag
set_option maxHeartbeats 4000000

theorem has_loop {C : CallP} {K : Ex → PS → Prop} (l : List Run) (v : Int) (hlen : l.length < 4611686018427387904) : ∀ (rest : List Run) (i : Nat) (s : PS), l.drop i = rest → i ≤ l.length →
    s.t 1 = .c (.int .i64 v) → s.t 10 = .c (encL l) → s.t 11 = .c (.int .i64 l.length) → s.t 12 = .c (.int .i64 i) →
    ((∀ r ∈ rest, r.1 ≠ v) → ∀ s', K (.x 0) s') → (∀ s' r, rest.find? (fun r => r.1 == v) = some r → s'.t 4 = .c (.int .i64 r.2) → K .r s') → wP C (.loop b30_0) s K := by
  intro rest
  induction rest with
  | nil =>
    intro i s hd hi t1 t10 t11 t12 hx hr
    refine w_loop ?_
    have := get_end hd hi
    subst this
    rw [← put_same t11, ← put_same t12]
    unfold b30_0 r30_4 r30_5 r30_6 r30_7 r30_8
    repeat' (first
      | refine w_seq ?_
      | refine w_ops ?_
      | refine st_nil ?_
      | refine th_n ?_
      | refine th_x ?_
      | refine th_r ?_
      | refine bk_n ?_
      | refine bk_r ?_
      | refine bk_x ?_
      | refine bk_y (by decide) ?_
      | refine w_block ?_
      | refine w_skip ?_
      | refine w_exit ?_
      | refine w_ret ?_
      | refine w_true rfl ?_
      | refine w_false rfl ?_
      | refine w_condd rfl (fun hc => ?_) (fun hc => ?_)
      | refine w_cond rfl (fun hc => ?_) (fun hc => ?_)
      | refine mv_c rfl ?_
      | refine mv_ptr rfl ?_
      | refine mv_rp rfl ?_
      | refine mv_osl rfl ?_
      | refine mv_sp rfl ?_
      | refine mv_undef rfl ?_
      | refine lss_t rfl rfl (by omega) ?_
      | refine lss_f rfl rfl (by omega) ?_
      | refine lss_ rfl rfl ?_
      | refine eql_t rfl rfl (by omega) ?_
      | refine eql_f rfl rfl (by omega) ?_
      | refine eqd_ rfl rfl ?_
      | refine addu_in rfl rfl (by omega) ?_
      | refine add_in rfl rfl (by omega) ?_
      | refine alloc_ (fun u => ?_)
      | refine load_rp rfl (Nat.le_of_ble_eq_true rfl) rfl ?_
      | refine load_ptr rfl (by decide) rfl (Nat.le_of_ble_eq_true rfl) rfl ?_
      | refine load_sp rfl (by decide) rfl (by assumption) (Nat.le_of_ble_eq_true rfl) rfl ?_
      | refine store_ptr rfl rfl (by decide) rfl rfl (Nat.le_of_ble_eq_true rfl) rfl ?_
      | refine store_sp rfl rfl (by decide) rfl (by assumption) rfl (Nat.le_of_ble_eq_true rfl) rfl ?_
      | refine fad_ptr rfl rfl rfl ?_
      | refine fad_rp rfl (Nat.le_of_ble_eq_true rfl) rfl ?_
      | refine fad_sp rfl rfl rfl ?_
      | refine iaS_c rfl rfl (by omega) (by assumption) rfl ?_
      | refine iaS_osl rfl rfl rfl (by omega) rfl ?_
      | refine iaS_osl rfl rfl rfl (by first | omega | (simp; omega)) rfl ?_
      | refine addu_ rfl rfl ?_
      | refine bin_ rfl rfl rfl ?_)
    exact hx (by simp) _
  | cons r rest ih =>
    intro i s hd hi t1 t10 t11 t12 hx hr
    refine w_loop ?_
    have he := get_enc hd
    have hl := get_len hd
    have hn := get_next hd
    rw [← put_same t1, ← put_same t10, ← put_same t11, ← put_same t12]
    unfold b30_0 r30_4 r30_5 r30_6 r30_7 r30_8
    repeat' (first
      | refine w_seq ?_
      | refine w_ops ?_
      | refine st_nil ?_
      | refine th_n ?_
      | refine th_x ?_
      | refine th_r ?_
      | refine bk_n ?_
      | refine bk_r ?_
      | refine bk_x ?_
      | refine bk_y (by decide) ?_
      | refine w_block ?_
      | refine w_skip ?_
      | refine w_exit ?_
      | refine w_ret ?_
      | refine w_true rfl ?_
      | refine w_false rfl ?_
      | refine w_condd rfl (fun hc => ?_) (fun hc => ?_)
      | refine w_cond rfl (fun hc => ?_) (fun hc => ?_)
      | refine mv_c rfl ?_
      | refine mv_ptr rfl ?_
      | refine mv_rp rfl ?_
      | refine mv_osl rfl ?_
      | refine mv_sp rfl ?_
      | refine mv_undef rfl ?_
      | refine lss_t rfl rfl (by omega) ?_
      | refine lss_f rfl rfl (by omega) ?_
      | refine lss_ rfl rfl ?_
      | refine eql_t rfl rfl (by omega) ?_
      | refine eql_f rfl rfl (by omega) ?_
      | refine eqd_ rfl rfl ?_
      | refine addu_in rfl rfl (by omega) ?_
      | refine add_in rfl rfl (by omega) ?_
      | refine alloc_ (fun u => ?_)
      | refine load_rp rfl (Nat.le_of_ble_eq_true rfl) rfl ?_
      | refine load_ptr rfl (by decide) rfl (Nat.le_of_ble_eq_true rfl) rfl ?_
      | refine load_sp rfl (by decide) rfl (by assumption) (Nat.le_of_ble_eq_true rfl) rfl ?_
      | refine store_ptr rfl rfl (by decide) rfl rfl (Nat.le_of_ble_eq_true rfl) rfl ?_
      | refine store_sp rfl rfl (by decide) rfl (by assumption) rfl (Nat.le_of_ble_eq_true rfl) rfl ?_
      | refine fad_ptr rfl rfl rfl ?_
      | refine fad_rp rfl (Nat.le_of_ble_eq_true rfl) rfl ?_
      | refine fad_sp rfl rfl rfl ?_
      | refine iaS_c rfl rfl (by omega) (by assumption) rfl ?_
      | refine iaS_osl rfl rfl rfl (by omega) rfl ?_
      | refine iaS_osl rfl rfl rfl (by first | omega | (simp; omega)) rfl ?_
      | refine addu_ rfl rfl ?_
      | refine bin_ rfl rfl rfl ?_)
    · exact hr _ r (by simp [List.find?, hc]) rfl
    · refine ih (i + 1) _ hn (by omega) rfl rfl rfl rfl (fun h => hx (fun q hq => ?_)) (fun s' q hq h => hr s' q ?_ h)
      · rcases List.mem_cons.mp hq with rfl | hq
        · exact hc
        · exact h q hq
      · have : (r.1 == v) = false := by simpa using hc
        simp [List.find?, this, hq]

theorem C_Has (l : List Run) (v : Int) (hlen : l.length < 4611686018427387904) : PCallG Try.prog 30 [.c (encL l), .c (.int .i64 v)] (.c (.int .i64 (if good l then has l v else 0))) [] := by
  refine pcallF Try.func30 c30 rfl ?_
  unfold p30 r30_0 r30_1 r30_2 r30_3 r30_9
  by_cases hg : good l = true
  · have hC := C_good l hlen
    rw [hg] at hC
    repeat' (first
      | refine call1 rfl hC ?_
      | refine w_seq ?_
      | refine w_ops ?_
      | refine st_nil ?_
      | refine th_n ?_
      | refine th_r ?_
      | refine bk_n ?_
      | refine bk_r ?_
      | refine bk_x ?_
      | refine bk_y (by decide) ?_
      | refine w_block ?_
      | refine w_skip ?_
      | refine w_ret ?_
      | refine w_true rfl ?_
      | refine w_false rfl ?_
      | refine w_condd rfl (fun hc => ?_) (fun hc => ?_)
      | refine w_cond rfl (fun hc => ?_) (fun hc => ?_)
      | refine mv_c rfl ?_
      | refine mv_ptr rfl ?_
      | refine mv_rp rfl ?_
      | refine mv_osl rfl ?_
      | refine mv_sp rfl ?_
      | refine mv_undef rfl ?_
      | refine notd_ rfl ?_
      | refine not_ rfl ?_
      | refine len_sl rfl (by first | assumption | exact List.length_map _) ?_
      | refine len_sl rfl rfl ?_
      | refine len_osl rfl rfl ?_
      | refine len_osl rfl rfl ?_
      | refine un_ rfl rfl ?_)
    refine has_loop l v hlen l 0 _ rfl (by omega) rfl rfl rfl rfl (fun h s' => ?_) (fun s' r h h4 => ?_)
    · repeat' (first
      | refine w_seq ?_
      | refine w_ops ?_
      | refine st_nil ?_
      | refine th_n ?_
      | refine th_r ?_
      | refine bk_n ?_
      | refine bk_r ?_
      | refine bk_x ?_
      | refine bk_y (by decide) ?_
      | refine w_block ?_
      | refine w_skip ?_
      | refine w_ret ?_
      | refine w_true rfl ?_
      | refine w_false rfl ?_
      | refine w_condd rfl (fun hc => ?_) (fun hc => ?_)
      | refine w_cond rfl (fun hc => ?_) (fun hc => ?_)
      | refine mv_c rfl ?_
      | refine mv_ptr rfl ?_
      | refine mv_rp rfl ?_
      | refine mv_osl rfl ?_
      | refine mv_sp rfl ?_
      | refine mv_undef rfl ?_
      | refine notd_ rfl ?_
      | refine not_ rfl ?_
      | refine len_sl rfl (by first | assumption | exact List.length_map _) ?_
      | refine len_sl rfl rfl ?_
      | refine len_osl rfl rfl ?_
      | refine len_osl rfl rfl ?_
      | refine un_ rfl rfl ?_)
      refine fin_r rfl ?_
      have : l.find? (fun r => r.1 == v) = none := by simpa using h
      simp [one_, hg, has, this]
    · rw [← put_same h4]
      repeat' (first
        | refine w_seq ?_
        | refine w_ops ?_
        | refine st_nil ?_
        | refine th_n ?_
        | refine th_r ?_
        | refine bk_n ?_
        | refine bk_r ?_
        | refine bk_x ?_
        | refine bk_y (by decide) ?_
        | refine w_block ?_
        | refine w_skip ?_
        | refine w_ret ?_
        | refine w_true rfl ?_
        | refine w_false rfl ?_
        | refine w_condd rfl (fun hc => ?_) (fun hc => ?_)
        | refine w_cond rfl (fun hc => ?_) (fun hc => ?_)
        | refine mv_c rfl ?_
        | refine mv_ptr rfl ?_
        | refine mv_rp rfl ?_
        | refine mv_osl rfl ?_
        | refine mv_sp rfl ?_
        | refine mv_undef rfl ?_
        | refine notd_ rfl ?_
        | refine not_ rfl ?_
        | refine len_sl rfl (by first | assumption | exact List.length_map _) ?_
        | refine len_sl rfl rfl ?_
        | refine len_osl rfl rfl ?_
        | refine len_osl rfl rfl ?_
        | refine un_ rfl rfl ?_)
      exact fin_r rfl (by simp [one_, hg, has, h])
  · simp only [Bool.not_eq_true] at hg
    have hC := C_good l hlen
    rw [hg] at hC
    repeat' (first
      | refine call1 rfl hC ?_
      | refine w_seq ?_
      | refine w_ops ?_
      | refine st_nil ?_
      | refine th_n ?_
      | refine th_r ?_
      | refine bk_n ?_
      | refine bk_r ?_
      | refine bk_x ?_
      | refine bk_y (by decide) ?_
      | refine w_block ?_
      | refine w_skip ?_
      | refine w_ret ?_
      | refine w_true rfl ?_
      | refine w_false rfl ?_
      | refine w_condd rfl (fun hc => ?_) (fun hc => ?_)
      | refine w_cond rfl (fun hc => ?_) (fun hc => ?_)
      | refine mv_c rfl ?_
      | refine mv_ptr rfl ?_
      | refine mv_rp rfl ?_
      | refine mv_osl rfl ?_
      | refine mv_sp rfl ?_
      | refine mv_undef rfl ?_
      | refine notd_ rfl ?_
      | refine not_ rfl ?_
      | refine len_sl rfl (by first | assumption | exact List.length_map _) ?_
      | refine len_sl rfl rfl ?_
      | refine len_osl rfl rfl ?_
      | refine len_osl rfl rfl ?_
      | refine un_ rfl rfl ?_)
    exact fin_r rfl (by simp [one_, hg])

def endB (l : List Run) (last : Bool) : Int × Bool :=
  if good l then (match (if last then l.getLast? else l.head?) with | some r => (r.1, true) | none => (0, false)) else (0, false)
def tup2 (p : Int × Bool) : CV := .tup [.int .i64 p.1, .bool p.2]

theorem C_end (l : List Run) (last : Bool) (hlen : l.length < 4611686018427387904) : PCallG Try.prog 85 [.c (encL l), .c (.bool last)] (.c (tup2 (endB l last))) [] := by
  refine pcallF Try.func85 c85 rfl ?_
  unfold p85 r85_0 r85_1 r85_2 r85_3 r85_4 r85_5
  have hC := C_good l hlen
  cases hg : good l with
  | false =>
    rw [hg] at hC
    repeat' (first
      | refine call1 rfl hC ?_
      | refine w_seq ?_
      | refine w_ops ?_
      | refine st_nil ?_
      | refine th_n ?_
      | refine th_r ?_
      | refine w_skip ?_
      | refine w_ret ?_
      | refine w_true rfl ?_
      | refine w_false rfl ?_
      | refine w_condd rfl (fun hc => ?_) (fun hc => ?_)
      | refine w_cond rfl (fun hc => ?_) (fun hc => ?_)
      | refine g_yes rfl ?_
      | refine g_no rfl ?_
      | refine g_no' rfl ?_
      | refine g_un rfl ?_
      | refine g_un' rfl ?_
      | refine g_splitd rfl (fun hg => ?_) (fun hg => ?_)
      | refine g_split rfl (fun hg => ?_) (fun hg => ?_)
      | refine mv_c rfl ?_
      | refine mv_ptr rfl ?_
      | refine mv_rp rfl ?_
      | refine mv_osl rfl ?_
      | refine mv_sp rfl ?_
      | refine mv_undef rfl ?_
      | refine pick_t rfl rfl ?_
      | refine pick_f rfl rfl ?_
      | refine eql_t rfl rfl (by omega) ?_
      | refine eql_f rfl rfl (by omega) ?_
      | refine eqd_ rfl rfl ?_
      | refine notd_ rfl ?_
      | refine not_ rfl ?_
      | refine subu_in rfl rfl (by omega) ?_
      | refine sub_in rfl rfl (by omega) ?_
      | refine load_rp rfl (Nat.le_of_ble_eq_true rfl) rfl ?_
      | refine load_ptr rfl (by decide) rfl (Nat.le_of_ble_eq_true rfl) rfl ?_
      | refine load_sp rfl (by decide) rfl (by assumption) (Nat.le_of_ble_eq_true rfl) rfl ?_
      | refine fad_ptr rfl rfl rfl ?_
      | refine fad_rp rfl (Nat.le_of_ble_eq_true rfl) rfl ?_
      | refine fad_sp rfl rfl rfl ?_
      | refine iaS_c rfl rfl (by omega) (by assumption) rfl ?_
      | refine iaS_osl rfl rfl rfl (by omega) rfl ?_
      | refine len_sl rfl (by first | assumption | exact List.length_map _) ?_
      | refine len_sl rfl rfl ?_
      | refine len_osl rfl rfl ?_
      | refine iaS_osl rfl rfl rfl (by first | omega | (simp; omega)) rfl ?_
      | refine len_osl rfl rfl ?_
      | refine un_ rfl rfl ?_
      | refine subu_ rfl rfl ?_
      | refine bin_ rfl rfl rfl ?_)
    exact fin_r rfl (by simp [one_, tup2, endB, hg])
  | true =>
    rw [hg] at hC
    cases l with
    | nil =>
      repeat' (first
        | refine call1 rfl hC ?_
        | refine len_sl rfl rfl ?_
        | refine w_seq ?_
        | refine w_ops ?_
        | refine st_nil ?_
        | refine th_n ?_
        | refine th_r ?_
        | refine w_skip ?_
        | refine w_ret ?_
        | refine w_true rfl ?_
        | refine w_false rfl ?_
        | refine w_condd rfl (fun hc => ?_) (fun hc => ?_)
        | refine w_cond rfl (fun hc => ?_) (fun hc => ?_)
        | refine g_yes rfl ?_
        | refine g_no rfl ?_
        | refine g_no' rfl ?_
        | refine g_un rfl ?_
        | refine g_un' rfl ?_
        | refine g_splitd rfl (fun hg => ?_) (fun hg => ?_)
        | refine g_split rfl (fun hg => ?_) (fun hg => ?_)
        | refine mv_c rfl ?_
        | refine mv_ptr rfl ?_
        | refine mv_rp rfl ?_
        | refine mv_osl rfl ?_
        | refine mv_sp rfl ?_
        | refine mv_undef rfl ?_
        | refine pick_t rfl rfl ?_
        | refine pick_f rfl rfl ?_
        | refine eql_t rfl rfl (by omega) ?_
        | refine eql_f rfl rfl (by omega) ?_
        | refine eqd_ rfl rfl ?_
        | refine notd_ rfl ?_
        | refine not_ rfl ?_
        | refine subu_in rfl rfl (by omega) ?_
        | refine sub_in rfl rfl (by omega) ?_
        | refine load_rp rfl (Nat.le_of_ble_eq_true rfl) rfl ?_
        | refine load_ptr rfl (by decide) rfl (Nat.le_of_ble_eq_true rfl) rfl ?_
        | refine load_sp rfl (by decide) rfl (by assumption) (Nat.le_of_ble_eq_true rfl) rfl ?_
        | refine fad_ptr rfl rfl rfl ?_
        | refine fad_rp rfl (Nat.le_of_ble_eq_true rfl) rfl ?_
        | refine fad_sp rfl rfl rfl ?_
        | refine iaS_c rfl rfl (by omega) (by assumption) rfl ?_
        | refine iaS_osl rfl rfl rfl (by omega) rfl ?_
        | refine len_sl rfl (by first | assumption | exact List.length_map _) ?_
        | refine len_sl rfl rfl ?_
        | refine len_osl rfl rfl ?_
        | refine iaS_osl rfl rfl rfl (by first | omega | (simp; omega)) rfl ?_
        | refine len_osl rfl rfl ?_
        | refine un_ rfl rfl ?_
        | refine subu_ rfl rfl ?_
        | refine bin_ rfl rfl rfl ?_)
      exact fin_r rfl (by cases last <;> simp [one_, tup2, endB, hg])
    | cons r l =>
      have h0 : ((r :: l).map encR)[(0 : Int).toNat]? = some (encR r) := rfl
      have h1 : ((r :: l).map encR)[((r :: l).length - 1 : Int).toNat]? = some (encR ((r :: l).getLast (by simp))) := by
        have : ((r :: l).length - 1 : Int).toNat = l.length := by simp
        rw [this, List.getElem?_map, List.getLast_eq_getElem]
        simp
      have hm : ((r :: l).map encR).length = (r :: l).length := List.length_map _
      have hp : 0 < (r :: l).length := by simp
      cases last with
      | true =>
        repeat' (first
          | refine call1 rfl hC ?_
          | refine w_seq ?_
          | refine w_ops ?_
          | refine st_nil ?_
          | refine th_n ?_
          | refine th_r ?_
          | refine w_skip ?_
          | refine w_ret ?_
          | refine w_true rfl ?_
          | refine w_false rfl ?_
          | refine w_condd rfl (fun hc => ?_) (fun hc => ?_)
          | refine w_cond rfl (fun hc => ?_) (fun hc => ?_)
          | refine g_yes rfl ?_
          | refine g_no rfl ?_
          | refine g_no' rfl ?_
          | refine g_un rfl ?_
          | refine g_un' rfl ?_
          | refine g_splitd rfl (fun hg => ?_) (fun hg => ?_)
          | refine g_split rfl (fun hg => ?_) (fun hg => ?_)
          | refine mv_c rfl ?_
          | refine mv_ptr rfl ?_
          | refine mv_rp rfl ?_
          | refine mv_osl rfl ?_
          | refine mv_sp rfl ?_
          | refine mv_undef rfl ?_
          | refine pick_t rfl rfl ?_
          | refine pick_f rfl rfl ?_
          | refine eql_t rfl rfl (by omega) ?_
          | refine eql_f rfl rfl (by omega) ?_
          | refine eqd_ rfl rfl ?_
          | refine notd_ rfl ?_
          | refine not_ rfl ?_
          | refine subu_in rfl rfl (by omega) ?_
          | refine sub_in rfl rfl (by omega) ?_
          | refine load_rp rfl (Nat.le_of_ble_eq_true rfl) rfl ?_
          | refine load_ptr rfl (by decide) rfl (Nat.le_of_ble_eq_true rfl) rfl ?_
          | refine load_sp rfl (by decide) rfl (by assumption) (Nat.le_of_ble_eq_true rfl) rfl ?_
          | refine fad_ptr rfl rfl rfl ?_
          | refine fad_rp rfl (Nat.le_of_ble_eq_true rfl) rfl ?_
          | refine fad_sp rfl rfl rfl ?_
          | refine iaS_c rfl rfl (by omega) (by assumption) rfl ?_
          | refine iaS_osl rfl rfl rfl (by omega) rfl ?_
          | refine len_sl rfl (by first | assumption | exact List.length_map _) ?_
          | refine len_sl rfl rfl ?_
          | refine len_osl rfl rfl ?_
          | refine iaS_osl rfl rfl rfl (by first | omega | (simp; omega)) rfl ?_
          | refine len_osl rfl rfl ?_
          | refine un_ rfl rfl ?_
          | refine subu_ rfl rfl ?_
          | refine bin_ rfl rfl rfl ?_)
        exact fin_r rfl (by simp [one_, tup2, endB, hg, List.getLast?_eq_some_getLast]; rfl)
      | false =>
        repeat' (first
          | refine call1 rfl hC ?_
          | refine w_seq ?_
          | refine w_ops ?_
          | refine st_nil ?_
          | refine th_n ?_
          | refine th_r ?_
          | refine w_skip ?_
          | refine w_ret ?_
          | refine w_true rfl ?_
          | refine w_false rfl ?_
          | refine w_condd rfl (fun hc => ?_) (fun hc => ?_)
          | refine w_cond rfl (fun hc => ?_) (fun hc => ?_)
          | refine g_yes rfl ?_
          | refine g_no rfl ?_
          | refine g_no' rfl ?_
          | refine g_un rfl ?_
          | refine g_un' rfl ?_
          | refine g_splitd rfl (fun hg => ?_) (fun hg => ?_)
          | refine g_split rfl (fun hg => ?_) (fun hg => ?_)
          | refine mv_c rfl ?_
          | refine mv_ptr rfl ?_
          | refine mv_rp rfl ?_
          | refine mv_osl rfl ?_
          | refine mv_sp rfl ?_
          | refine mv_undef rfl ?_
          | refine pick_t rfl rfl ?_
          | refine pick_f rfl rfl ?_
          | refine eql_t rfl rfl (by omega) ?_
          | refine eql_f rfl rfl (by omega) ?_
          | refine eqd_ rfl rfl ?_
          | refine notd_ rfl ?_
          | refine not_ rfl ?_
          | refine subu_in rfl rfl (by omega) ?_
          | refine sub_in rfl rfl (by omega) ?_
          | refine load_rp rfl (Nat.le_of_ble_eq_true rfl) rfl ?_
          | refine load_ptr rfl (by decide) rfl (Nat.le_of_ble_eq_true rfl) rfl ?_
          | refine load_sp rfl (by decide) rfl (by assumption) (Nat.le_of_ble_eq_true rfl) rfl ?_
          | refine fad_ptr rfl rfl rfl ?_
          | refine fad_rp rfl (Nat.le_of_ble_eq_true rfl) rfl ?_
          | refine fad_sp rfl rfl rfl ?_
          | refine iaS_c rfl rfl (by omega) (by assumption) rfl ?_
          | refine iaS_osl rfl rfl rfl (by omega) rfl ?_
          | refine len_sl rfl (by first | assumption | exact List.length_map _) ?_
          | refine len_sl rfl rfl ?_
          | refine len_osl rfl rfl ?_
          | refine iaS_osl rfl rfl rfl (by first | omega | (simp; omega)) rfl ?_
          | refine len_osl rfl rfl ?_
          | refine un_ rfl rfl ?_
          | refine subu_ rfl rfl ?_
          | refine bin_ rfl rfl rfl ?_)
        exact fin_r rfl (by simp [one_, tup2, endB, hg]; rfl)

theorem C_Least (l : List Run) (hlen : l.length < 4611686018427387904) : PCallG Try.prog 22 [.c (encL l)] (.c (tup2 (endB l false))) [] := by
  refine pcallF Try.func22 c22 rfl ?_
  unfold p22 r22_0 r22_1
  repeat' (first
    | refine call2 rfl rfl (C_end l false hlen) ?_
    | refine w_seq ?_
    | refine w_ops ?_
    | refine st_nil ?_
    | refine th_n ?_
    | refine th_r ?_
    | refine w_ret ?_
    | refine mv_c rfl ?_
    | refine mv_ptr rfl ?_
    | refine mv_rp rfl ?_
    | refine mv_osl rfl ?_
    | refine mv_sp rfl ?_
    | refine mv_undef rfl ?_
    | refine ext_ rfl rfl ?_)
  exact fin_r rfl rfl
theorem C_Greatest (l : List Run) (hlen : l.length < 4611686018427387904) : PCallG Try.prog 23 [.c (encL l)] (.c (tup2 (endB l true))) [] := by
  refine pcallF Try.func23 c23 rfl ?_
  unfold p23 r23_0 r23_1
  repeat' (first
    | refine call2 rfl rfl (C_end l true hlen) ?_
    | refine w_seq ?_
    | refine w_ops ?_
    | refine st_nil ?_
    | refine th_n ?_
    | refine th_r ?_
    | refine w_ret ?_
    | refine mv_c rfl ?_
    | refine mv_ptr rfl ?_
    | refine mv_rp rfl ?_
    | refine mv_osl rfl ?_
    | refine mv_sp rfl ?_
    | refine mv_undef rfl ?_
    | refine ext_ rfl rfl ?_)
  exact fin_r rfl rfl
end Go.Proofs.Ytcmejdkjfekoeaa

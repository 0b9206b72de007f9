import Derived.Test.YtcmejdkjfekoeaaWOf
import Derived.Test.YtcmejdkjfekoeaaWSum
import Derived.Test.YtcmejdkjfekoeaaWMinus
import Derived.Test.YtcmejdkjfekoeaaWBag2
namespace Go.Proofs.Ytcmejdkjfekoeaa
open Go.Pl Go.Bag
set_option maxHeartbeats 8000000

theorem ofL_313 : ofL [3, 1, 3] = [(1, 1), (3, 2)] := (ofL_ext (by simp [asc]) (by intro q hq; simp at hq; rcases hq with rfl | rfl <;> decide) (fun v => by simp only [cnt, num_cons, num_nil]; omega)).symm
theorem ofL_3 : ofL [3] = [(3, 1)] := (ofL_ext (by simp [asc]) (by intro q hq; simp at hq; subst hq; decide) (fun v => by simp only [cnt, num_cons, num_nil]; omega)).symm
theorem ofL_11 : ofL [1, 1] = [(1, 2)] := (ofL_ext (by simp [asc]) (by intro q hq; simp at hq; subst hq; decide) (fun v => by simp only [cnt, num_cons, num_nil]; omega)).symm

theorem C_wakes8 : PCallG Try.prog 20 [] (.c (.bool true)) [] := by
  refine pcallF Try.func20 c20 rfl ?_
  have h1 := C_Of [3, 1, 3] (by decide)
  have h2 := C_Of [3] (by decide)
  have h3 := C_Of [1, 1] (by decide)
  rw [ofL_313] at h1
  rw [ofL_3] at h2
  rw [ofL_11] at h3
  have h4 : PCallG Try.prog 31 [.c (encL [(1, 1), (3, 2)])] (.c (.tup [.int .i64 7, .bool true])) [] := C_Sum [(1, 1), (3, 2)] (by decide) (by intro q hq; simp at hq; rcases hq with rfl | rfl <;> decide)
  have h5 : PCallG Try.prog 24 [.c (encL [(1, 1), (3, 2)]), .c (encL [(3, 1)])] (.c (.tup [encL [(1, 1), (3, 1)], .bool true])) [] := C_Minus [(1, 1), (3, 2)] [(3, 1)] (by decide) (by decide)
  have h6 : PCallG Try.prog 24 [.c (encL [(1, 1), (3, 2)]), .c (encL [(1, 2)])] (.c (.tup [encL [], .bool false])) [] := C_Minus [(1, 1), (3, 2)] [(1, 2)] (by decide) (by decide)
  have h7 : PCallG Try.prog 30 [.c (encL [(1, 1), (3, 1)]), .c (.int .i64 3)] (.c (.int .i64 1)) [] := C_Has [(1, 1), (3, 1)] 3 (by decide)
  have h8 : PCallG Try.prog 26 [.c (encL [(1, 1), (3, 2)])] (.c (.bool true)) [] := C_good [(1, 1), (3, 2)] (by decide)
  have h9 : PCallG Try.prog 27 [.c (encL [(1, 1), (3, 2)])] (.c (.int .i64 3)) [] := C_Count [(1, 1), (3, 2)] (by decide)
  have h10 : PCallG Try.prog 26 [.c (encL [(1, 0)])] (.c (.bool false)) [] := C_good [(1, 0)] (by decide)
  have g1 : ([(1, 1), (3, 2)].map encR)[(1 : Int).toNat]? = some (encR (3, 2)) := rfl
  unfold p20 r20_0 r20_1 r20_2 r20_3 r20_4 r20_5
  repeat' (first
    | refine call1 rfl h1 ?_
    | refine call1 rfl h2 ?_
    | refine call1 rfl h3 ?_
    | refine call1 rfl h4 ?_
    | refine call2 rfl rfl h5 ?_
    | refine call2 rfl rfl h6 ?_
    | refine call2 rfl rfl h7 ?_
    | refine call1 rfl h8 ?_
    | refine call1 rfl h9 ?_
    | refine call1 rfl h10 ?_
    | refine eqs_t rfl rfl rfl ?_
    | refine len_sl (es := [(1, 1), (3, 2)].map encR) rfl rfl ?_
    | refine w_seq ?_
    | refine w_ops ?_
    | refine st_nil ?_
    | refine th_n ?_
    | refine th_r ?_
    | refine w_ret ?_
    | refine g_yes rfl ?_
    | refine g_no rfl ?_
    | refine g_no' rfl ?_
    | refine g_un rfl ?_
    | refine g_un' rfl ?_
    | refine g_splitd rfl (fun hg => ?_) (fun hg => ?_)
    | refine g_split rfl (fun hg => ?_) (fun hg => ?_)
    | refine mv_c rfl ?_
    | refine mv_ptr rfl ?_
    | refine mv_rp rfl ?_
    | refine mv_osl rfl ?_
    | refine mv_sp rfl ?_
    | refine mv_undef rfl ?_
    | refine pick_t rfl rfl ?_
    | refine pick_f rfl rfl ?_
    | refine eql_t rfl rfl (by omega) ?_
    | refine eql_f rfl rfl (by omega) ?_
    | refine eqd_ rfl rfl ?_
    | refine eqlB_ rfl rfl ?_
    | refine neqB_ rfl rfl ?_
    | refine notd_ rfl ?_
    | refine not_ rfl ?_
    | refine build_ rfl rfl ?_
    | refine bsl_ rfl rfl ?_
    | refine bsl_own rfl rfl rfl (fun u => ?_)
    | refine load_rp rfl (Nat.le_of_ble_eq_true rfl) rfl ?_
    | refine load_ptr rfl (by decide) rfl (Nat.le_of_ble_eq_true rfl) rfl ?_
    | refine load_sp rfl (by decide) rfl (by assumption) (Nat.le_of_ble_eq_true rfl) rfl ?_
    | refine iaS_c rfl rfl (by omega) (by assumption) rfl ?_
    | refine iaS_osl rfl rfl rfl (by omega) rfl ?_
    | refine ext_ rfl rfl ?_
    | refine len_sl rfl (by first | assumption | exact List.length_map _) ?_
    | refine len_sl rfl rfl ?_
    | refine len_osl rfl rfl ?_
    | refine iaS_osl rfl rfl rfl (by first | omega | (simp; omega)) rfl ?_
    | refine len_osl rfl rfl ?_
    | refine eqs_t rfl rfl rfl ?_
    | refine eqs_f rfl rfl rfl ?_
    | refine un_ rfl rfl ?_
    | refine bin_ rfl rfl rfl ?_)
  exact fin_r rfl rfl
end Go.Proofs.Ytcmejdkjfekoeaa

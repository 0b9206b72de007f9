/- Part of the proof of DeltaTells, DeltaApplies, DeltaBack, DeltaJoins, DeltaSpoilt: lemmas. -/
import Derived.Test.YtcmejdkjfekoeaaDeltaS4
import Derived.Test.YtcmejdkjfekoeaaDeltaS5
import Derived.Test.YtcmejdkjfekoeaaDeltaS6
import Derived.Shelf.SlIterI.Sorted
import Derived.Shelf.SortM.Plain
import Derived.Shelf.SortM.SortNone
import Derived.Test.YtcmejdkjfekoeaaProg
import Derived.RangeFuncBox
import Derived.RangeFuncLeaves
import Derived.Shelf.Abstract
import Derived.WalkKit
import Derived.OwnWalkIn
import Derived.TacticsInMore
import Derived.LoopNIn
import Derived.LoopIn
set_option linter.unusedVariables false
set_option linter.unusedSimpArgs false
namespace Go.Proofs.Ytcmejdkjfekoeaa
open Go.Pl Go.Bag
set_option maxHeartbeats 8000000
theorem lay_loop {C : CallP} {K : Ex → PS → Prop} (l : List Run) (v n : Int) (hlen : l.length < 400000000) : ∀ (rest : List Run) (i : Nat) (d : Bool) (out : List Run) (es : List (List CV)) (s : PS), l.drop i = rest → i ≤ l.length → es = encE out → out.length + 2 * rest.length < 1000000000 →
    (∀ r ∈ rest, -9223372036854775808 ≤ r.2 + n ∧ r.2 + n ≤ 9223372036854775807) →
    s.t 0 = .c (encL l) → s.t 1 = .c (.int .i64 v) → s.t 2 = .c (.int .i64 n) → s.t 8 = .c (.bool d) → s.t 9 = .c (.int .i64 i) → s.t 7 = .osl 7 (s.bx 7).ver 0 es.length → s.bx 7 = ⟨(s.bx 7).ver, .sl 2 es⟩ →
    (∀ s', (out ++ (layB v n d rest).1).length < 1000000000 → s'.t 1 = .c (.int .i64 v) → s'.t 2 = .c (.int .i64 n) → s'.t 8 = .c (.bool (layB v n d rest).2) → s'.t 7 = .osl 7 (s'.bx 7).ver 0 (encE (out ++ (layB v n d rest).1)).length → s'.bx 7 = ⟨(s'.bx 7).ver, .sl 2 (encE (out ++ (layB v n d rest).1))⟩ → K (.x 0) s') → wP C (.loop b81_0) s K := by
  intro rest
  induction rest with
  | nil =>
    intro i d out es s hd hi he hl hb t0 t1 t2 t8 t9 t7 b7 hx
    refine w_loop ?_
    have := get_end hd hi
    subst this
    subst he
    generalize (s.bx 7).ver = v7 at t7 b7
    rw [← put_same t0, ← put_same t1, ← put_same t2, ← put_same t8, ← put_same t9, ← put_same t7, ← box_same b7]
    unfold b81_0 r81_4 r81_5 r81_6 r81_7 r81_8 r81_9 r81_10 r81_11 r81_12 r81_13
    repeat' (first | refine w_seq ?_ | refine w_ops ?_ | refine st_nil ?_ | refine th_n ?_ | refine th_x ?_ | refine w_exit ?_ | refine w_false rfl ?_ | refine mv_c rfl ?_ | refine lss_f rfl rfl (by omega) ?_ | refine len_sl rfl (by first | assumption | exact List.length_map _) ?_)
    exact hx _ (by simpa [layB] using hl) (by rfl) (by rfl) (by rfl) (by simp only [layB, List.append_nil]; rfl) (by simp only [layB, List.append_nil]; rfl)
  | cons r rest ih =>
    intro i d out es s hd hi he hl hb t0 t1 t2 t8 t9 t7 b7 hx
    refine w_loop ?_
    have hget := get_enc hd
    have hil := get_len hd
    have hn := get_next hd
    have hr1 := hb r (by simp)
    have hb' : ∀ q ∈ rest, -9223372036854775808 ≤ q.2 + n ∧ q.2 + n ≤ 9223372036854775807 := fun q hq => hb q (by simp [hq])
    have hlr : (r :: rest).length = rest.length + 1 := rfl
    have hgrow : ∀ q : List CV, es.length + [q].length ≤ maxGrow := fun q => by
      subst he; simp [encE, maxGrow]; omega
    have hgrow2 : ∀ q p : List CV, (es ++ [p]).length + [q].length ≤ maxGrow := fun q p => by
      subst he; simp [encE, maxGrow]; omega
    have hz : ∀ p : Run, es ++ [[.int .i64 p.1, .int .i64 p.2]] = encE (out ++ [p]) := fun p => by subst he; simp [encE, encR]
    have hz2 : ∀ p q : Run, es ++ [[.int .i64 p.1, .int .i64 p.2]] ++ [[.int .i64 q.1, .int .i64 q.2]] = encE (out ++ [p] ++ [q]) := fun p q => by subst he; simp [encE, encR]
    generalize (s.bx 7).ver = v7 at t7 b7
    rw [← put_same t0, ← put_same t1, ← put_same t2, ← put_same t8, ← put_same t9, ← put_same t7, ← box_same b7]
    unfold b81_0 r81_4 r81_5 r81_6 r81_7 r81_8 r81_9 r81_10 r81_11 r81_12 r81_13
    cases d with
    | true =>
      repeat' (first | refine app_own rfl rfl rfl rfl (hgrow _) (by intro e he; cases List.mem_singleton.mp he; rfl) rfl rfl (fun _ _ => ?_) | refine w_seq ?_ | refine w_ops ?_ | refine st_nil ?_ | refine th_n ?_ | refine bk_n ?_ | refine w_block ?_ | refine w_skip ?_ | refine w_true rfl ?_ | refine w_false rfl ?_ | refine w_condd rfl (fun hc => ?_) (fun hc => ?_) | refine g_no rfl ?_ | refine mv_c rfl ?_ | refine mv_osl rfl ?_ | refine pick_f rfl rfl ?_ | refine lss_t rfl rfl (by omega) ?_ | refine ned_ rfl rfl ?_ | refine not_ rfl ?_ | refine add_in rfl rfl (by omega) ?_ | refine alloc_ (fun u => ?_) | refine bsl_ rfl rfl ?_ | refine load_rp rfl (Nat.le_of_ble_eq_true rfl) rfl ?_ | refine load_ptr rfl (by decide) rfl (Nat.le_of_ble_eq_true rfl) rfl ?_ | refine store_ptr rfl rfl (by decide) rfl rfl (Nat.le_of_ble_eq_true rfl) rfl ?_ | refine fad_ptr rfl rfl rfl ?_ | refine iaS_c rfl rfl (by omega) (by assumption) rfl ?_ | refine len_sl rfl (by first | assumption | exact List.length_map _) ?_ | refine w_rn_same rfl ?_ | refine w_rn rfl (by decide) rfl rfl (fun _ _ => ?_))
      · have e : layB v n true (r :: rest) = ([r] ++ (layB v n true rest).1, (layB v n true rest).2) := by simp [layB, keepR, hc]
        rw [e, ← List.append_assoc] at hx
        exact ih (i + 1) true (out ++ [r]) _ _ hn (by omega) (hz r) (by simp; omega) hb' (by rfl) (by rfl) (by rfl) (by rfl) (by rfl) (by rfl) (by rfl) hx
      · have e : layB v n true (r :: rest) = ((layB v n true rest).1, (layB v n true rest).2) := by
          have : r.2 = 0 := by omega
          simp [layB, keepR, this]
        rw [e] at hx
        exact ih (i + 1) true out es _ hn (by omega) he (by omega) hb' (by rfl) (by rfl) (by rfl) (by rfl) (by rfl) (by rfl) (by rfl) hx
    | false =>
      by_cases h1 : v ≤ r.1
      · by_cases h2 : v < r.1
        · repeat' (first | refine app_own rfl rfl rfl rfl (hgrow _) (by intro e he; cases List.mem_singleton.mp he; rfl) rfl rfl (fun _ _ => ?_) | refine app_own rfl rfl rfl rfl (hgrow2 _ _) (by intro e he; cases List.mem_singleton.mp he; rfl) rfl rfl (fun _ _ => ?_) | refine w_seq ?_ | refine w_ops ?_ | refine st_nil ?_ | refine th_n ?_ | refine bk_n ?_ | refine w_block ?_ | refine w_skip ?_ | refine w_true rfl ?_ | refine w_condd rfl (fun hc => ?_) (fun hc => ?_) | refine g_yes rfl ?_ | refine mv_c rfl ?_ | refine mv_osl rfl ?_ | refine pick_t rfl rfl ?_ | refine lss_t rfl rfl (by omega) ?_ | refine gtr_t rfl rfl (by omega) ?_ | refine geq_t rfl rfl (by omega) ?_ | refine ned_ rfl rfl ?_ | refine not_ rfl ?_ | refine add_in rfl rfl (by omega) ?_ | refine alloc_ (fun u => ?_) | refine build_ rfl rfl ?_ | refine bsl_ rfl rfl ?_ | refine load_rp rfl (Nat.le_of_ble_eq_true rfl) rfl ?_ | refine load_ptr rfl (by decide) rfl (Nat.le_of_ble_eq_true rfl) rfl ?_ | refine store_ptr rfl rfl (by decide) rfl rfl (Nat.le_of_ble_eq_true rfl) rfl ?_ | refine fad_ptr rfl rfl rfl ?_ | refine iaS_c rfl rfl (by omega) (by assumption) rfl ?_ | refine len_sl rfl (by first | assumption | exact List.length_map _) ?_ | refine w_rn rfl (by decide) rfl rfl (fun _ _ => ?_))
          · have e : layB v n false (r :: rest) = ([(v, n)] ++ ([r] ++ (layB v n true rest).1), (layB v n true rest).2) := by simp [layB, keepR, hc, h1, h2]
            rw [e, ← List.append_assoc, ← List.append_assoc] at hx
            exact ih (i + 1) true (out ++ [(v, n)] ++ [r]) _ _ hn (by omega) (hz2 (v, n) r) (by simp; omega) hb' (by rfl) (by rfl) (by rfl) (by rfl) (by rfl) (by rfl) (by rfl) hx
          · have e : layB v n false (r :: rest) = ([(v, n)] ++ (layB v n true rest).1, (layB v n true rest).2) := by
              have : r.2 = 0 := by omega
              simp [layB, keepR, this, h1, h2]
            rw [e, ← List.append_assoc] at hx
            exact ih (i + 1) true (out ++ [(v, n)]) _ _ hn (by omega) (hz (v, n)) (by simp; omega) hb' (by rfl) (by rfl) (by rfl) (by rfl) (by rfl) (by rfl) (by rfl) hx
        · repeat' (first | refine app_own rfl rfl rfl rfl (hgrow _) (by intro e he; cases List.mem_singleton.mp he; rfl) rfl rfl (fun _ _ => ?_) | refine w_seq ?_ | refine w_ops ?_ | refine st_nil ?_ | refine th_n ?_ | refine bk_n ?_ | refine w_block ?_ | refine w_skip ?_ | refine w_true rfl ?_ | refine w_false rfl ?_ | refine w_condd rfl (fun hc => ?_) (fun hc => ?_) | refine g_yes rfl ?_ | refine mv_c rfl ?_ | refine mv_osl rfl ?_ | refine pick_t rfl rfl ?_ | refine lss_t rfl rfl (by omega) ?_ | refine gtr_f rfl rfl (by omega) ?_ | refine geq_t rfl rfl (by omega) ?_ | refine ned_ rfl rfl ?_ | refine not_ rfl ?_ | refine add_in rfl rfl (by omega) ?_ | refine alloc_ (fun u => ?_) | refine bsl_ rfl rfl ?_ | refine load_rp rfl (Nat.le_of_ble_eq_true rfl) rfl ?_ | refine load_ptr rfl (by decide) rfl (Nat.le_of_ble_eq_true rfl) rfl ?_ | refine store_ptr rfl rfl (by decide) rfl rfl (Nat.le_of_ble_eq_true rfl) rfl ?_ | refine fad_ptr rfl rfl rfl ?_ | refine iaS_c rfl rfl (by omega) (by assumption) rfl ?_ | refine len_sl rfl (by first | assumption | exact List.length_map _) ?_ | refine w_rn_same rfl ?_ | refine w_rn rfl (by decide) rfl rfl (fun _ _ => ?_))
          · have e : layB v n false (r :: rest) = ([(r.1, r.2 + n)] ++ (layB v n true rest).1, (layB v n true rest).2) := by simp [layB, keepR, hc, h1, h2]
            rw [e, ← List.append_assoc] at hx
            exact ih (i + 1) true (out ++ [(r.1, r.2 + n)]) _ _ hn (by omega) (hz (r.1, r.2 + n)) (by simp; omega) hb' (by rfl) (by rfl) (by rfl) (by rfl) (by rfl) (by rfl) (by rfl) hx
          · have e : layB v n false (r :: rest) = ((layB v n true rest).1, (layB v n true rest).2) := by
              have : r.2 + n = 0 := by omega
              simp [layB, keepR, this, h1, h2]
            rw [e] at hx
            exact ih (i + 1) true out es _ hn (by omega) he (by omega) hb' (by rfl) (by rfl) (by rfl) (by rfl) (by rfl) (by rfl) (by rfl) hx
      · repeat' (first | refine app_own rfl rfl rfl rfl (hgrow _) (by intro e he; cases List.mem_singleton.mp he; rfl) rfl rfl (fun _ _ => ?_) | refine w_seq ?_ | refine w_ops ?_ | refine st_nil ?_ | refine th_n ?_ | refine bk_n ?_ | refine w_block ?_ | refine w_skip ?_ | refine w_true rfl ?_ | refine w_false rfl ?_ | refine w_condd rfl (fun hc => ?_) (fun hc => ?_) | refine g_yes rfl ?_ | refine mv_c rfl ?_ | refine mv_osl rfl ?_ | refine pick_t rfl rfl ?_ | refine lss_t rfl rfl (by omega) ?_ | refine geq_f rfl rfl (by omega) ?_ | refine ned_ rfl rfl ?_ | refine not_ rfl ?_ | refine add_in rfl rfl (by omega) ?_ | refine alloc_ (fun u => ?_) | refine bsl_ rfl rfl ?_ | refine load_rp rfl (Nat.le_of_ble_eq_true rfl) rfl ?_ | refine load_ptr rfl (by decide) rfl (Nat.le_of_ble_eq_true rfl) rfl ?_ | refine store_ptr rfl rfl (by decide) rfl rfl (Nat.le_of_ble_eq_true rfl) rfl ?_ | refine fad_ptr rfl rfl rfl ?_ | refine iaS_c rfl rfl (by omega) (by assumption) rfl ?_ | refine len_sl rfl (by first | assumption | exact List.length_map _) ?_ | refine w_rn_same rfl ?_ | refine w_rn rfl (by decide) rfl rfl (fun _ _ => ?_))
        · have e : layB v n false (r :: rest) = ([r] ++ (layB v n false rest).1, (layB v n false rest).2) := by simp [layB, keepR, hc, h1]
          rw [e, ← List.append_assoc] at hx
          exact ih (i + 1) false (out ++ [r]) _ _ hn (by omega) (hz r) (by simp; omega) hb' (by rfl) (by rfl) (by rfl) (by rfl) (by rfl) (by rfl) (by rfl) hx
        · have e : layB v n false (r :: rest) = ((layB v n false rest).1, (layB v n false rest).2) := by
            have : r.2 = 0 := by omega
            simp [layB, keepR, this, h1]
          rw [e] at hx
          exact ih (i + 1) false out es _ hn (by omega) he (by omega) hb' (by rfl) (by rfl) (by rfl) (by rfl) (by rfl) (by rfl) (by rfl) hx
theorem C_Lay (l : List Run) (v n : Int) (hlen : l.length < 400000000) (hb : ∀ r ∈ l, -9223372036854775808 ≤ r.2 + n ∧ r.2 + n ≤ 9223372036854775807) :
    PCallG Try.prog 81 [.c (encL l), .c (.int .i64 v), .c (.int .i64 n)] (.c (encL (lay l v n))) [] := by
  refine pcallF Try.func81 c81 rfl ?_
  unfold p81 r81_0 r81_1 r81_2 r81_3 r81_14 r81_15 r81_16
  repeat' (first | refine w_seq ?_ | refine w_ops ?_ | refine st_nil ?_ | refine th_n ?_ | refine w_block ?_ | refine mv_c rfl ?_ | refine own0_ (fun u => ?_))
  refine lay_loop l v n hlen l 0 false [] [] _ rfl (by omega) rfl (by simp; omega) hb (by rfl) (by rfl) (by rfl) (by rfl) (by rfl) (by rfl) (by rfl) ?_
  intro s' hl t1 t2 t8 t7 b7
  simp only [List.nil_append] at hl t7 b7
  have hgrow : ∀ q : List CV, (encE (layB v n false l).1).length + [q].length ≤ maxGrow := fun q => by simp [encE, maxGrow]; omega
  generalize (s'.bx 7).ver = v7 at t7 b7
  rw [← put_same t1, ← put_same t2, ← put_same t8, ← put_same t7, ← box_same b7]
  cases hd : (layB v n false l).2 with
  | true =>
    repeat' (first | refine w_seq ?_ | refine w_ops ?_ | refine st_nil ?_ | refine th_n ?_ | refine bk_x ?_ | refine w_skip ?_ | refine w_ret ?_ | refine w_false rfl ?_ | refine mv_c rfl ?_ | refine mv_osl rfl ?_ | refine not_ rfl ?_)
    refine fin_r (rv_own rfl rfl rfl rv_nil) ?_
    simp [one_, lay, hd, encL, encE]
  | false =>
    repeat' (first | refine app_own rfl rfl rfl rfl (hgrow _) (by intro e he; cases List.mem_singleton.mp he; rfl) rfl rfl (fun _ _ => ?_) | refine w_seq ?_ | refine w_ops ?_ | refine st_nil ?_ | refine th_n ?_ | refine bk_x ?_ | refine w_ret ?_ | refine w_true rfl ?_ | refine mv_c rfl ?_ | refine mv_osl rfl ?_ | refine not_ rfl ?_ | refine build_ rfl rfl ?_ | refine bsl_ rfl rfl ?_)
    refine fin_r (rv_own rfl rfl rfl rv_nil) ?_
    simp [one_, lay, hd, encL, encE]
    rfl
end Go.Proofs.Ytcmejdkjfekoeaa
namespace Go.Proofs.Ytcmejdkjfekoeaa
open Go.Pl Go.Bag
set_option maxHeartbeats 4000000
theorem rgood_loop {C : CallP} {K : Ex → PS → Prop} (l : List Run) (hlen : l.length < 4611686018427387904) : ∀ (rest : List Run) (i : Nat) (sum : Int) (p : Option Int) (s : PS), l.drop i = rest → i ≤ l.length → 0 ≤ sum → sum ≤ 1099511627776 →
    (i = 0 → p = none) → (0 < i → ∃ q, (l.map encR)[((i : Int) - 1).toNat]? = some (encR q) ∧ p = some q.1) →
    s.t 0 = .c (encL l) → s.t 4 = .c (.int .i64 i) → s.t 3 = .c (.int .i64 sum) →
    (goodFrom p sum rest = true → ∀ s', K (.x 0) s') → (goodFrom p sum rest = false → ∀ s', s'.t 2 = .c (.bool false) → K .r s') → wP C (.loop b34_0) s K := by
  intro rest
  induction rest with
  | nil =>
    intro i sum p s hd hi h0 h1 hp0 hp1 t0 t4 t3 hx hr
    refine w_loop ?_
    have := get_end hd hi
    subst this
    rw [← put_same t0, ← put_same t4]
    unfold b34_0 r34_3 r34_4 r34_5 r34_6 r34_7
    repeat' (first | refine w_seq ?_ | refine w_ops ?_ | refine st_nil ?_ | refine th_n ?_ | refine th_x ?_ | refine w_exit ?_ | refine w_false rfl ?_ | refine mv_c rfl ?_ | refine lss_f rfl rfl (by omega) ?_ | refine len_sl rfl (by first | assumption | exact List.length_map _) ?_)
    exact hx rfl _
  | cons r rest ih =>
    intro i sum p s hd hi h0 h1 hp0 hp1 t0 t4 t3 hx hr
    refine w_loop ?_
    have he := get_enc hd
    have hl := get_len hd
    have hn := get_next hd
    rw [← put_same t0, ← put_same t4, ← put_same t3]
    unfold b34_0 r34_3 r34_4 r34_5 r34_6 r34_7
    have next : ∀ s'', (p.any (fun a => decide (r.1 ≤ a)) = false) → 1 ≤ r.2 → r.2 ≤ 1099511627776 - sum → s''.t 0 = .c (encL l) → s''.t 4 = .c (.int .i64 (i + 1)) → s''.t 3 = .c (.int .i64 (sum + r.2)) → wP C (.loop b34_0) s'' K := by
      intro s'' g1 g2 g3 u0 u4 u3
      have e : goodFrom p sum (r :: rest) = goodFrom (some r.1) (sum + r.2) rest := by
        have : ¬ r.2 < 1 := by omega
        have : ¬ cap - sum < r.2 := by unfold cap; omega
        simp [goodFrom, *]
      rw [e] at hx hr
      refine ih (i + 1) (sum + r.2) (some r.1) s'' hn (by omega) (by omega) (by omega) (by omega) (fun _ => ⟨r, ?_, rfl⟩) u0 u4 u3 hx hr
      have : (((i + 1 : Nat) : Int) - 1).toNat = i := by omega
      rw [this]; exact he
    have bad : ∀ s'', (p.any (fun a => decide (r.1 ≤ a)) = true ∨ r.2 < 1 ∨ 1099511627776 - sum < r.2) → s''.t 2 = .c (.bool false) → K .r s'' := by
      intro s'' g u2
      refine hr ?_ s'' u2
      rcases g with g | g | g
      · simp [goodFrom, g]
      · simp [goodFrom, g]
      · have : cap - sum < r.2 := g
        simp [goodFrom, this]
    rcases Nat.eq_zero_or_pos i with hz | hz
    · have hp := hp0 hz
      repeat' (first | refine w_seq ?_ | refine w_ops ?_ | refine w_opsD0 rfl ?_ | refine st_nil ?_ | refine th_n ?_ | refine th_r ?_ | refine bk_n ?_ | refine bk_r ?_ | refine w_block ?_ | refine w_skip ?_ | refine w_ret ?_ | refine w_true rfl ?_ | refine w_condd rfl (fun hc => ?_) (fun hc => ?_) | refine g_yes rfl ?_ | refine g_no rfl ?_ | refine g_splitd rfl (fun hg => ?_) (fun hg => ?_) | refine mv_c rfl ?_ | refine pick_t rfl rfl ?_ | refine pick_f rfl rfl ?_ | refine lss_t rfl rfl (by omega) ?_ | refine lss_ rfl rfl ?_ | refine gtr_f rfl rfl (by omega) ?_ | refine gtr_ rfl rfl ?_ | refine add_in rfl rfl (by omega) ?_ | refine sub_in rfl rfl (by omega) ?_ | refine load_rp rfl (Nat.le_of_ble_eq_true rfl) rfl ?_ | refine fad_rp rfl (Nat.le_of_ble_eq_true rfl) rfl ?_ | refine iaS_c rfl rfl (by omega) (by assumption) rfl ?_ | refine len_sl rfl (by first | assumption | exact List.length_map _) ?_)
      all_goals (first | exact next _ (by simp [hp]) (by omega) (by omega) (by rfl) (by rfl) (by rfl) | exact bad _ (.inr (by omega)) rfl)
    · obtain ⟨q, hq, hp⟩ := hp1 hz
      repeat' (first | refine w_seq ?_ | refine w_ops ?_ | refine w_opsD0 rfl ?_ | refine st_nil ?_ | refine th_n ?_ | refine th_r ?_ | refine bk_n ?_ | refine bk_r ?_ | refine w_block ?_ | refine w_skip ?_ | refine w_ret ?_ | refine w_true rfl ?_ | refine w_condd rfl (fun hc => ?_) (fun hc => ?_) | refine g_yes rfl ?_ | refine g_no rfl ?_ | refine g_splitd rfl (fun hg => ?_) (fun hg => ?_) | refine mv_c rfl ?_ | refine pick_t rfl rfl ?_ | refine pick_f rfl rfl ?_ | refine lss_t rfl rfl (by omega) ?_ | refine lss_ rfl rfl ?_ | refine gtr_t rfl rfl (by omega) ?_ | refine gtr_ rfl rfl ?_ | refine geq_ rfl rfl ?_ | refine add_in rfl rfl (by omega) ?_ | refine sub_in rfl rfl (by omega) ?_ | refine load_rp rfl (Nat.le_of_ble_eq_true rfl) rfl ?_ | refine fad_rp rfl (Nat.le_of_ble_eq_true rfl) rfl ?_ | refine iaS_c rfl rfl (by omega) (by assumption) rfl ?_ | refine len_sl rfl (by first | assumption | exact List.length_map _) ?_)
      all_goals (first | exact next _ (by simp [hp]; omega) (by omega) (by omega) (by rfl) (by rfl) (by rfl) | exact bad _ (.inr (by omega)) rfl | exact bad _ (.inl (by simp [hp]; omega)) rfl)
theorem C_rGood (l : List Run) (hlen : l.length < 4611686018427387904) : PCallG Try.prog 34 [.c (encL l)] (.c (.bool (good l))) [] := by
  refine pcallF Try.func34 c34 rfl ?_
  unfold p34 r34_0 r34_1 r34_2 r34_8
  repeat' (first | refine w_seq ?_ | refine w_ops ?_ | refine st_nil ?_ | refine th_n ?_ | refine w_block ?_ | refine mv_c rfl ?_)
  refine rgood_loop l hlen l 0 0 none _ rfl (by omega) (by omega) (by omega) (fun _ => rfl) (fun h => by omega) (by rfl) (by rfl) (by rfl) ?_ ?_
  · intro hg s'
    repeat' (first | refine w_seq ?_ | refine w_ops ?_ | refine st_nil ?_ | refine th_n ?_ | refine bk_x ?_ | refine w_ret ?_ | refine mv_c rfl ?_)
    exact fin_r rfl (by unfold good; rw [hg]; rfl)
  · intro hg s' h2
    rw [← put_same h2]
    repeat' (first | refine th_r ?_ | refine bk_r ?_)
    exact fin_r rfl (by unfold good; rw [hg]; rfl)
theorem rcount_loop {K : Ex → PS → Prop} (l : List Run) (hg : good l = true) (hlen : l.length < 4611686018427387904) : ∀ (rest : List Run) (i : Nat) (acc : Int) (s : PS), l.drop i = rest → i ≤ l.length → pos rest → 0 ≤ acc → acc + sum rest ≤ 1099511627776 →
    s.t 0 = .c (encL l) → s.t 4 = .c (.int .i64 i) → s.t 3 = .c (.int .i64 acc) →
    (∀ s', s'.t 3 = .c (.int .i64 (acc + sum rest)) → K (.x 0) s') → wP (PCallG Try.prog) (.loop b35_0) s K := by
  have hC := C_rGood l hlen
  rw [hg] at hC
  intro rest
  induction rest with
  | nil =>
    intro i acc s hd hi hp h0 h1 t0 t4 t3 hx
    refine w_loop ?_
    have := get_end hd hi
    subst this
    rw [← put_same t0, ← put_same t4, ← put_same t3]
    unfold b35_0 r35_3 r35_4 r35_5
    repeat' (first | refine call1 rfl hC ?_ | refine w_seq ?_ | refine w_ops ?_ | refine st_nil ?_ | refine th_n ?_ | refine th_x ?_ | refine w_exit ?_ | refine w_false rfl ?_ | refine g_yes rfl ?_ | refine mv_c rfl ?_ | refine pick_t rfl rfl ?_ | refine lss_f rfl rfl (by omega) ?_ | refine len_sl rfl (by first | assumption | exact List.length_map _) ?_)
    exact hx _ (by simp [sum]; rfl)
  | cons r rest ih =>
    intro i acc s hd hi hp h0 h1 t0 t4 t3 hx
    refine w_loop ?_
    have he := get_enc hd
    have hl := get_len hd
    have hn := get_next hd
    have hr := hp r (by simp)
    have hp' : pos rest := fun q hq => hp q (by simp [hq])
    have hs := sum_nonneg hp'
    have e : acc + sum (r :: rest) = acc + r.2 + sum rest := by simp only [sum]; omega
    rw [e] at h1 hx
    rw [← put_same t0, ← put_same t4, ← put_same t3]
    unfold b35_0 r35_3 r35_4 r35_5
    repeat' (first | refine call1 rfl hC ?_ | refine w_seq ?_ | refine w_ops ?_ | refine st_nil ?_ | refine th_n ?_ | refine bk_n ?_ | refine w_block ?_ | refine w_skip ?_ | refine w_true rfl ?_ | refine g_yes rfl ?_ | refine mv_c rfl ?_ | refine pick_t rfl rfl ?_ | refine lss_t rfl rfl (by omega) ?_ | refine add_in rfl rfl (by omega) ?_ | refine load_rp rfl (Nat.le_of_ble_eq_true rfl) rfl ?_ | refine fad_rp rfl (Nat.le_of_ble_eq_true rfl) rfl ?_ | refine iaS_c rfl rfl (by omega) (by assumption) rfl ?_ | refine len_sl rfl (by first | assumption | exact List.length_map _) ?_)
    exact ih (i + 1) (acc + r.2) _ hn (by omega) hp' (by omega) (by omega) (by rfl) (by rfl) (by rfl) hx
theorem C_rCount (l : List Run) (hlen : l.length < 4611686018427387904) : PCallG Try.prog 35 [.c (encL l)] (.c (.int .i64 (if good l then sum l else 0))) [] := by
  refine pcallF Try.func35 c35 rfl ?_
  unfold p35 r35_0 r35_1 r35_2 r35_6
  by_cases hg : good l = true
  · obtain ⟨hp, hs⟩ := good_facts hg
    have hs' : sum l ≤ 1099511627776 := hs
    repeat' (first | refine w_seq ?_ | refine w_ops ?_ | refine st_nil ?_ | refine th_n ?_ | refine w_block ?_ | refine mv_c rfl ?_)
    refine rcount_loop l hg hlen l 0 0 _ rfl (by omega) hp (by omega) (by omega) (by rfl) (by rfl) (by rfl) (fun s' h3 => ?_)
    rw [← put_same h3]
    repeat' (first | refine w_seq ?_ | refine w_ops ?_ | refine st_nil ?_ | refine th_n ?_ | refine bk_x ?_ | refine w_ret ?_ | refine mv_c rfl ?_)
    exact fin_r rfl (by simp [one_, hg])
  · simp only [Bool.not_eq_true] at hg
    have hC := C_rGood l hlen
    rw [hg] at hC
    repeat' (first | refine w_seq ?_ | refine w_ops ?_ | refine st_nil ?_ | refine th_n ?_ | refine w_block ?_ | refine mv_c rfl ?_)
    refine w_loop ?_
    unfold b35_0 r35_3 r35_4 r35_5
    repeat' (first | refine call1 rfl hC ?_ | refine w_seq ?_ | refine w_ops ?_ | refine st_nil ?_ | refine th_n ?_ | refine th_x ?_ | refine bk_x ?_ | refine w_exit ?_ | refine w_ret ?_ | refine w_false rfl ?_ | refine g_no rfl ?_ | refine mv_c rfl ?_ | refine pick_f rfl rfl ?_)
    exact fin_r rfl (by simp [one_, hg])
end Go.Proofs.Ytcmejdkjfekoeaa
namespace Go.Proofs.Ytcmejdkjfekoeaa
open Go.Pl Go.Bag
set_option maxHeartbeats 4000000
theorem rhas_loop {K : Ex → PS → Prop} (l : List Run) (v : Int) (hg : good l = true) (hlen : l.length < 4611686018427387904) : ∀ (rest : List Run) (i : Nat) (s : PS), l.drop i = rest → i ≤ l.length →
    s.t 0 = .c (encL l) → s.t 1 = .c (.int .i64 v) → s.t 5 = .c (.int .i64 i) →
    ((∀ r ∈ rest, r.1 ≠ v) → ∀ s', K (.x 0) s') → (∀ s' r, rest.find? (fun r => r.1 == v) = some r → s'.t 4 = .c (.int .i64 r.2) → K .r s') → wP (PCallG Try.prog) (.loop b38_0) s K := by
  have hC := C_rGood l hlen
  rw [hg] at hC
  intro rest
  induction rest with
  | nil =>
    intro i s hd hi t0 t1 t5 hx hr
    refine w_loop ?_
    have := get_end hd hi
    subst this
    rw [← put_same t0, ← put_same t5]
    unfold b38_0 r38_2 r38_3 r38_4 r38_5
    repeat' (first | refine call1 rfl hC ?_ | refine w_seq ?_ | refine w_ops ?_ | refine st_nil ?_ | refine th_n ?_ | refine th_x ?_ | refine w_exit ?_ | refine w_false rfl ?_ | refine g_yes rfl ?_ | refine mv_c rfl ?_ | refine pick_t rfl rfl ?_ | refine lss_f rfl rfl (by omega) ?_ | refine len_sl rfl (by first | assumption | exact List.length_map _) ?_)
    exact hx (by simp) _
  | cons r rest ih =>
    intro i s hd hi t0 t1 t5 hx hr
    refine w_loop ?_
    have he := get_enc hd
    have hl := get_len hd
    have hn := get_next hd
    rw [← put_same t0, ← put_same t1, ← put_same t5]
    unfold b38_0 r38_2 r38_3 r38_4 r38_5
    by_cases hc : r.1 = v
    · repeat' (first | refine call1 rfl hC ?_ | refine w_seq ?_ | refine w_ops ?_ | refine st_nil ?_ | refine th_n ?_ | refine th_r ?_ | refine bk_r ?_ | refine w_block ?_ | refine w_skip ?_ | refine w_ret ?_ | refine w_true rfl ?_ | refine g_yes rfl ?_ | refine mv_c rfl ?_ | refine pick_t rfl rfl ?_ | refine lss_t rfl rfl (by omega) ?_ | refine eql_t rfl rfl (by omega) ?_ | refine load_rp rfl (Nat.le_of_ble_eq_true rfl) rfl ?_ | refine fad_rp rfl (Nat.le_of_ble_eq_true rfl) rfl ?_ | refine iaS_c rfl rfl (by omega) (by assumption) rfl ?_ | refine len_sl rfl (by first | assumption | exact List.length_map _) ?_)
      exact hr _ r (by simp [List.find?, hc]) rfl
    · repeat' (first | refine call1 rfl hC ?_ | refine w_seq ?_ | refine w_ops ?_ | refine st_nil ?_ | refine th_n ?_ | refine bk_n ?_ | refine w_block ?_ | refine w_skip ?_ | refine w_true rfl ?_ | refine w_false rfl ?_ | refine g_yes rfl ?_ | refine mv_c rfl ?_ | refine pick_t rfl rfl ?_ | refine lss_t rfl rfl (by omega) ?_ | refine eql_f rfl rfl (by omega) ?_ | refine add_in rfl rfl (by omega) ?_ | refine load_rp rfl (Nat.le_of_ble_eq_true rfl) rfl ?_ | refine fad_rp rfl (Nat.le_of_ble_eq_true rfl) rfl ?_ | refine iaS_c rfl rfl (by omega) (by assumption) rfl ?_ | refine len_sl rfl (by first | assumption | exact List.length_map _) ?_)
      refine ih (i + 1) _ hn (by omega) (by rfl) (by rfl) (by rfl) (fun h => hx (fun q hq => ?_)) (fun s' q hq h => hr s' q ?_ h)
      · rcases List.mem_cons.mp hq with rfl | hq
        · exact hc
        · exact h q hq
      · have : (r.1 == v) = false := by simpa using hc
        simp [List.find?, this, hq]
theorem C_rHas (l : List Run) (v : Int) (hlen : l.length < 4611686018427387904) : PCallG Try.prog 38 [.c (encL l), .c (.int .i64 v)] (.c (.int .i64 (if good l then has l v else 0))) [] := by
  refine pcallF Try.func38 c38 rfl ?_
  unfold p38 r38_0 r38_1 r38_6
  by_cases hg : good l = true
  · repeat' (first | refine w_seq ?_ | refine w_ops ?_ | refine st_nil ?_ | refine th_n ?_ | refine w_block ?_ | refine mv_c rfl ?_)
    refine rhas_loop l v hg hlen l 0 _ rfl (by omega) (by rfl) (by rfl) (by rfl) (fun h s' => ?_) (fun s' r h h4 => ?_)
    · repeat' (first | refine w_seq ?_ | refine w_ops ?_ | refine st_nil ?_ | refine th_n ?_ | refine bk_x ?_ | refine w_ret ?_ | refine mv_c rfl ?_)
      refine fin_r rfl ?_
      have : l.find? (fun r => r.1 == v) = none := by simpa using h
      simp [one_, hg, has, this]
    · rw [← put_same h4]
      repeat' (first | refine th_r ?_ | refine bk_r ?_)
      exact fin_r rfl (by simp [one_, hg, has, h])
  · simp only [Bool.not_eq_true] at hg
    have hC := C_rGood l hlen
    rw [hg] at hC
    repeat' (first | refine w_seq ?_ | refine w_ops ?_ | refine st_nil ?_ | refine th_n ?_ | refine w_block ?_ | refine mv_c rfl ?_)
    refine w_loop ?_
    unfold b38_0 r38_2 r38_3 r38_4 r38_5
    repeat' (first | refine call1 rfl hC ?_ | refine w_seq ?_ | refine w_ops ?_ | refine st_nil ?_ | refine th_n ?_ | refine th_x ?_ | refine bk_x ?_ | refine w_exit ?_ | refine w_ret ?_ | refine w_false rfl ?_ | refine g_no rfl ?_ | refine mv_c rfl ?_ | refine pick_f rfl rfl ?_)
    exact fin_r rfl (by simp [one_, hg])
theorem rsame_loop {C : CallP} {K : Ex → PS → Prop} (l k : List Run) (hlen : l.length < 4611686018427387904) (hk : k.length = l.length) : ∀ (rest rest' : List Run) (i : Nat) (s : PS), l.drop i = rest → k.drop i = rest' → i ≤ l.length →
    s.t 0 = .c (encL l) → s.t 1 = .c (encL k) → s.t 5 = .c (.int .i64 i) →
    (rest = rest' → ∀ s', K (.x 0) s') → (rest ≠ rest' → ∀ s', s'.t 4 = .c (.bool false) → K .r s') → wP C (.loop b41_0) s K := by
  intro rest
  induction rest with
  | nil =>
    intro rest' i s hd hd' hi t0 t1 t5 hx hr
    refine w_loop ?_
    have := get_end hd hi
    subst this
    have h' : rest' = [] := by rw [← hd', ← hk]; simp
    subst h'
    rw [← put_same t0, ← put_same t5]
    unfold b41_0 r41_4 r41_5 r41_6 r41_7
    repeat' (first | refine w_seq ?_ | refine w_ops ?_ | refine st_nil ?_ | refine th_n ?_ | refine th_x ?_ | refine w_exit ?_ | refine w_false rfl ?_ | refine mv_c rfl ?_ | refine lss_f rfl rfl (by omega) ?_ | refine len_sl rfl (by first | assumption | exact List.length_map _) ?_)
    exact hx rfl _
  | cons r rest ih =>
    intro rest' i s hd hd' hi t0 t1 t5 hx hr
    refine w_loop ?_
    have he := get_enc hd
    have hl := get_len hd
    have hn := get_next hd
    match rest', hd' with
    | [], hd' => exact absurd (List.drop_eq_nil_iff.mp hd') (by omega)
    | q :: rest', hd' =>
      have he' := get_enc hd'
      have hn' := get_next hd'
      rw [← put_same t0, ← put_same t1, ← put_same t5]
      unfold b41_0 r41_4 r41_5 r41_6 r41_7
      have hq : eqC true [.i, .i] (.agg (encR r)) (.agg (encR q)) = some (decide (r = q)) := by
        obtain ⟨r1, r2⟩ := r
        obtain ⟨q1, q2⟩ := q
        by_cases h1 : r1 = q1 <;> by_cases h2 : r2 = q2 <;> simp [eqC, shEq, encR, h1, h2]
      by_cases hrq : r = q
      · rw [decide_eq_true hrq] at hq
        repeat' (first | refine eqs_f rfl rfl hq ?_ | refine w_seq ?_ | refine w_ops ?_ | refine w_opsD0 rfl ?_ | refine st_nil ?_ | refine th_n ?_ | refine bk_n ?_ | refine w_block ?_ | refine w_skip ?_ | refine w_true rfl ?_ | refine w_false rfl ?_ | refine mv_c rfl ?_ | refine lss_t rfl rfl (by omega) ?_ | refine add_in rfl rfl (by omega) ?_ | refine load_rp rfl (Nat.le_of_ble_eq_true rfl) rfl ?_ | refine iaS_c rfl rfl (by omega) (by assumption) rfl ?_ | refine len_sl rfl (by first | assumption | exact List.length_map _) ?_)
        exact ih rest' (i + 1) _ hn hn' (by omega) (by rfl) (by rfl) (by rfl) (fun h => hx (by rw [hrq, h])) (fun h => hr (fun e => h (by injection e)))
      · rw [decide_eq_false hrq] at hq
        repeat' (first | refine eqs_f rfl rfl hq ?_ | refine w_seq ?_ | refine w_ops ?_ | refine w_opsD0 rfl ?_ | refine st_nil ?_ | refine th_n ?_ | refine th_r ?_ | refine bk_r ?_ | refine w_block ?_ | refine w_skip ?_ | refine w_ret ?_ | refine w_true rfl ?_ | refine mv_c rfl ?_ | refine lss_t rfl rfl (by omega) ?_ | refine load_rp rfl (Nat.le_of_ble_eq_true rfl) rfl ?_ | refine iaS_c rfl rfl (by omega) (by assumption) rfl ?_ | refine len_sl rfl (by first | assumption | exact List.length_map _) ?_)
        exact hr (fun e => hrq (by injection e)) _ rfl
theorem C_rSame (l k : List Run) (hlen : l.length < 4611686018427387904) (hklen : k.length < 4611686018427387904) : PCallG Try.prog 41 [.c (encL l), .c (encL k)] (.c (.bool (decide (l = k)))) [] := by
  refine pcallF Try.func41 c41 rfl ?_
  unfold p41 r41_0 r41_1 r41_2 r41_3 r41_8
  by_cases hk : k.length = l.length
  · repeat' (first | refine w_seq ?_ | refine w_ops ?_ | refine st_nil ?_ | refine th_n ?_ | refine w_block ?_ | refine w_skip ?_ | refine w_false rfl ?_ | refine mv_c rfl ?_ | refine neq_f rfl rfl (by omega) ?_ | refine len_sl rfl (by first | assumption | exact List.length_map _) ?_)
    refine rsame_loop l k hlen hk l k 0 _ rfl rfl (by omega) (by rfl) (by rfl) (by rfl) (fun h s' => ?_) (fun h s' h4 => ?_)
    · repeat' (first | refine w_seq ?_ | refine w_ops ?_ | refine st_nil ?_ | refine th_n ?_ | refine bk_x ?_ | refine w_ret ?_ | refine mv_c rfl ?_)
      exact fin_r rfl (by simp [one_, h])
    · rw [← put_same h4]
      repeat' (first | refine th_r ?_ | refine bk_r ?_)
      exact fin_r rfl (by simp [one_, h])
  · repeat' (first | refine w_seq ?_ | refine w_ops ?_ | refine st_nil ?_ | refine th_n ?_ | refine th_r ?_ | refine w_ret ?_ | refine w_true rfl ?_ | refine mv_c rfl ?_ | refine neq_t rfl rfl (by omega) ?_ | refine len_sl rfl (by first | assumption | exact List.length_map _) ?_)
    refine fin_r rfl ?_
    have : l ≠ k := fun e => hk (by rw [e])
    simp [one_, this]
end Go.Proofs.Ytcmejdkjfekoeaa
/-
  DERIVED: THE SHELF's CONTRACTS AT THIS DUMP, IN PLAIN WORDS (tools/lay-plain.mjs out of 'YtcmejdkjfekoeaaLays.lean', which tools/lay-shelf.mjs wrote): THE SAME DECLARATIONS UNDER THE SAME NAMES: 'import', 'namespace', 'open', 'def', 'theorem' AND NOTHING ELSE: no command of the shelf's: FOR A HAND-IN. Each laying: the table of numbers ('.._ren') and one theorem, a field a fact of the dump's own or the kernel's comparison; each contract: ONE APPLICATION.
-/
namespace Go.Proofs
open Go.Shelf
def Try.sorted_ren : Go.Shelf.Ren := ⟨fun | 6 => 82 | 8 => 115 | 9 => 116 | 11 => 138 | 13 => 140 | 12 => 139 | 23 => 156 | 24 => 157 | 14 => 147 | 15 => 148 | 16 => 149 | 17 => 150 | 18 => 151 | 19 => 152 | 20 => 153 | 21 => 154 | 22 => 155 | 25 => 160 | 26 => 161 | 27 => 162 | 28 => 163 | 29 => 164 | 30 => 124 | 31 => 165 | n => n, fun | 26 => 2 | 28 => 138 | 24 => 22 | 0 => 0 | 3 => 3 | 37 => 180 | 48 => 215 | 50 => 31 | 4 => 4 | 40 => 207 | 39 => 206 | 45 => 212 | 5 => 5 | 9 => 9 | 51 => 219 | 55 => 223 | 57 => 225 | 58 => 226 | 33 => 179 | n => n, fun | n => n⟩
theorem Try.sorted : Go.Proofs.SlLaysZI.n6 Try.prog Try.sorted_ren := {
  mixed := by kernel_rfl
  f6 := ⟨Try.f82.name, by decide, Try.func82.trans (congrArg some (by kernel_rfl))⟩
  f8 := ⟨Try.f115.name, by decide, Try.func115.trans (congrArg some (by kernel_rfl))⟩
  f11 := ⟨Try.f138.name, by decide, Try.func138.trans (congrArg some (by kernel_rfl))⟩
  t0 := Try.underlying0
  a0 := Try.isAgg0
  z0 := Try.sizeOf0
  v0 := Try.zeroValue0
  t24 := Try.underlying22
  a24 := Try.isAgg22
  z24 := Try.sizeOf22
  v24 := Try.zeroValue22
  t26 := Try.underlying2
  a26 := Try.isAgg2
  z26 := Try.sizeOf2
  v26 := Try.zeroValue2
  t28 := Try.underlying138
  a28 := Try.isAgg138
  z28 := Try.sizeOf138
  v28 := Try.zeroValue138
  i26 := by kernel_rfl }
def Try.sortA_ren : Go.Shelf.Ren := ⟨fun | 5 => 116 | 8 => 140 | 7 => 139 | 19 => 156 | 20 => 157 | 10 => 147 | 11 => 148 | 12 => 149 | 13 => 150 | 14 => 151 | 15 => 152 | 16 => 153 | 17 => 154 | 18 => 155 | 30 => 160 | 31 => 161 | 32 => 162 | 33 => 163 | 34 => 164 | 35 => 124 | 40 => 165 | n => n, fun | 23 => 22 | 25 => 2 | 3 => 3 | 32 => 180 | 22 => 22 | 0 => 0 | 44 => 215 | 46 => 31 | 4 => 4 | 36 => 207 | 35 => 206 | 41 => 212 | 5 => 5 | 9 => 9 | 53 => 219 | 57 => 223 | 63 => 225 | 64 => 226 | n => n, fun | n => n⟩
theorem Try.sortA : Go.Proofs.SlLaysM.n5 Try.prog Try.sortA_ren := {
  mixed := by kernel_rfl
  f5 := ⟨Try.f116.name, by decide, Try.func116.trans (congrArg some (by kernel_rfl))⟩
  f7 := ⟨Try.f139.name, by decide, Try.func139.trans (congrArg some (by kernel_rfl))⟩
  f8 := Try.func140.trans (congrArg some (by kernel_rfl))
  f10 := ⟨Try.f147.name, by decide, Try.func147.trans (congrArg some (by kernel_rfl))⟩
  f11 := ⟨Try.f148.name, by decide, Try.func148.trans (congrArg some (by kernel_rfl))⟩
  f12 := ⟨Try.f149.name, by decide, Try.func149.trans (congrArg some (by kernel_rfl))⟩
  f13 := ⟨Try.f150.name, by decide, Try.func150.trans (congrArg some (by kernel_rfl))⟩
  f14 := ⟨Try.f151.name, by decide, Try.func151.trans (congrArg some (by kernel_rfl))⟩
  f15 := ⟨Try.f152.name, by decide, Try.func152.trans (congrArg some (by kernel_rfl))⟩
  f16 := ⟨Try.f153.name, by decide, Try.func153.trans (congrArg some (by kernel_rfl))⟩
  f17 := ⟨Try.f154.name, by decide, Try.func154.trans (congrArg some (by kernel_rfl))⟩
  f18 := ⟨Try.f155.name, by decide, Try.func155.trans (congrArg some (by kernel_rfl))⟩
  f19 := Try.func156.trans (congrArg some (by kernel_rfl))
  f20 := Try.func157.trans (congrArg some (by kernel_rfl))
  f30 := ⟨Try.f160.name, by decide, Try.func160.trans (congrArg some (by kernel_rfl))⟩
  f31 := Try.func161.trans (congrArg some (by kernel_rfl))
  f32 := Try.func162.trans (congrArg some (by kernel_rfl))
  f33 := ⟨Try.f163.name, by decide, Try.func163.trans (congrArg some (by kernel_rfl))⟩
  f34 := ⟨Try.f164.name, by decide, Try.func164.trans (congrArg some (by kernel_rfl))⟩
  f35 := ⟨Try.f124.name, by decide, Try.func124.trans (congrArg some (by kernel_rfl))⟩
  f40 := ⟨Try.f165.name, by decide, Try.func165.trans (congrArg some (by kernel_rfl))⟩
  t0 := Try.underlying0
  a0 := Try.isAgg0
  z0 := Try.sizeOf0
  v0 := Try.zeroValue0
  t3 := Try.underlying3
  a3 := Try.isAgg3
  z3 := Try.sizeOf3
  v3 := Try.zeroValue3
  t4 := Try.underlying4
  a4 := Try.isAgg4
  z4 := Try.sizeOf4
  v4 := Try.zeroValue4
  t5 := Try.underlying5
  a5 := Try.isAgg5
  z5 := Try.sizeOf5
  v5 := Try.zeroValue5
  t9 := Try.underlying9
  a9 := Try.isAgg9
  z9 := Try.sizeOf9
  v9 := Try.zeroValue9
  t22 := Try.underlying22
  a22 := Try.isAgg22
  z22 := Try.sizeOf22
  v22 := Try.zeroValue22
  t23 := Try.underlying22
  a23 := Try.isAgg22
  z23 := Try.sizeOf22
  v23 := Try.zeroValue22
  t25 := Try.underlying2
  a25 := Try.isAgg2
  z25 := Try.sizeOf2
  v25 := Try.zeroValue2
  t32 := Try.underlying180
  a32 := Try.isAgg180
  z32 := Try.sizeOf180
  v32 := Try.zeroValue180
  t35 := Try.underlying206
  a35 := Try.isAgg206
  z35 := Try.sizeOf206
  v35 := Try.zeroValue206
  t36 := Try.underlying207
  a36 := Try.isAgg207
  z36 := Try.sizeOf207
  v36 := Try.zeroValue207
  t41 := Try.underlying212
  a41 := Try.isAgg212
  z41 := Try.sizeOf212
  v41 := Try.zeroValue212
  t44 := Try.underlying215
  a44 := Try.isAgg215
  z44 := Try.sizeOf215
  v44 := Try.zeroValue215
  t46 := Try.underlying31
  a46 := Try.isAgg31
  z46 := Try.sizeOf31
  v46 := Try.zeroValue31
  t53 := Try.underlying219
  a53 := Try.isAgg219
  z53 := Try.sizeOf219
  v53 := Try.zeroValue219
  t57 := Try.underlying223
  a57 := Try.isAgg223
  z57 := Try.sizeOf223
  v57 := Try.zeroValue223
  t63 := Try.underlying225
  a63 := Try.isAgg225
  z63 := Try.sizeOf225
  v63 := Try.zeroValue225
  t64 := Try.underlying226
  a64 := Try.isAgg226
  z64 := Try.sizeOf226
  v64 := Try.zeroValue226 }
end Go.Proofs
/-
  slices.Sorted(slices.Values(l)), AT WHATEVER SLICE OF int64: its values in order. The worked proofs at the dump of 'slices.Collect', 'slices.Sorted', 'slices.Values' turned to this seat; the iterator is asked only for what the loop of AppendSeq keeps.
-/
namespace Go.Proofs.Ytcmejdkjfekoeaa
open Go.RowKit Go.Maps Go.Sort Go.Shelf
attribute [local go_sem] Oper.semAt_some
def SeqB (F : Fence) (n : Nat) (P : Program) (g : Nat) (lb : Array Value) (S : List Int → Prop) (N : Nat) (w : World) : Prop :=
  ∀ (l : Nat) (J : List Int → World → Prop) (W : World), Below w.heap.size w W → AbidesFrom W.heap.size J → (∀ ss W1, J ss W1 → Below w.heap.size w W1) →
    (∀ pre x W1, J pre W1 → pre.length < N → YieldAt F (n - 1) P l #[encZ x] W1 fun e W' => e = .returned (.bool true) ∧ J (pre ++ [x]) W' ∧ KeepsWalks W1 W') →
    J [] W →
    CallsIn F n P g (#[.func (.yield l) #[] #[]] ++ lb) W fun e W' => (∃ v, e = .returned v) ∧ ∃ xs, S xs ∧ J xs W'
def first {α : Type} (f : Nat → α) (k : Nat) : List α := (List.range k).map f
theorem first_succ {α : Type} (f : Nat → α) (k : Nat) : first f (k + 1) = first f k ++ [f k] := by simp [first, List.range_succ]
theorem first_length {α : Type} (f : Nat → α) (k : Nat) : (first f k).length = k := by simp [first]
theorem first_all (zs : List Int) : first (fun j => zs[j]?.getD 0) zs.length = zs := by
  apply List.ext_getElem
  · simp [first]
  · intro i h1 h2
    simp [first, h2]
set_option maxRecDepth 100000 in
set_option maxHeartbeats 2000000 in
theorem values1_b (F : Fence) (n : Nat) (h7 : F.fn 117) (hro : F.round = none) (hn : 1 ≤ n) (l Bs b off len cap : Nat) (zs : List Int) (hreach : len * 8 ≤ 140737488351232) (J : List Int → World → Prop)
    (hB : ∀ ss W1, J ss W1 → ∀ j, j < len → W1.cell? ⟨b, off + j, none⟩ = some (.int .i64 (zs[j]?.getD 0)))
    (hY : ∀ pre x W, J pre W → pre.length < len → YieldAt F (n - 1) Try.prog l #[encZ x] W fun e W' => e = .returned (.bool true) ∧ J (pre ++ [x]) W' ∧ KeepsWalks W W')
    (W : World) (hBs : W.cell? ⟨Bs, 0, none⟩ = some (.slice (some ⟨b, off, none⟩) len cap)) (h0 : J [] W) :
    CallsIn F n Try.prog 117 #[.func (.yield l) #[] #[], .pointer (some ⟨Bs, 0, none⟩)] W fun e W' => (∃ v, e = .returned v) ∧ J (first (fun j => zs[j]?.getD 0) len) W' := by
  refine callsIn_of_wp Try.func117 rfl h7 ?_ hro
  simp only [Try.ntmps117, List.size_toArray, List.length_cons, List.length_nil, Nat.reduceAdd, Nat.reduceSub, Array.replicate_succ, Array.replicate_zero, List.push_toArray, List.append_toArray, List.nil_append, List.cons_append]
  gi_wp2
  gi_loopw [7] (fun i wr => ∃ k : Nat, k ≤ len ∧ i = .int .i64 k ∧ J (first (fun j => zs[j]?.getD 0) k) wr)
    (fun i _ => len - (intOf i).toNat)
  case atStart => exact ⟨0, Nat.zero_le _, rfl, h0⟩
  case round =>
    obtain ⟨k, hk, rfl, hJs⟩ := hrel
    have hcx : k < len → wr.cell? ⟨b, off + k, none⟩ = some (.int .i64 (zs[k]?.getD 0)) := fun h => hB _ _ hJs k h
    by_cases hlt : k < len
    · obtain ⟨fn, tmps, assign, body, hy, hR⟩ := hY _ (zs[k]?.getD 0) wr hJs (by rw [first_length]; exact hlt)
      have hcx' := hcx hlt
      gi_wp2
      refine hR.mono ?_
      rintro e W3 ⟨rfl, hJ3, hk3⟩
      gi_wp2
      go_roundw
      case rel => exact ⟨k + 1, by omega, by simp, by rw [first_succ]; exact hJ3⟩
      case measure => simp [intOf]; omega
    · obtain rfl : k = len := by omega
      gi_wp2
      go_end0
      exact ⟨⟨_, rfl⟩, hJs⟩
set_option maxRecDepth 100000 in
set_option maxHeartbeats 1000000 in
theorem values1_none_b (F : Fence) (n : Nat) (h7 : F.fn 117) (hro : F.round = none) (l Bs : Nat) (a : Option Addr) (cap : Nat) (J : List Int → World → Prop) (W : World) (hBs : W.cell? ⟨Bs, 0, none⟩ = some (.slice a 0 cap)) (h0 : J [] W) :
    CallsIn F n Try.prog 117 #[.func (.yield l) #[] #[], .pointer (some ⟨Bs, 0, none⟩)] W fun e W' => (∃ v, e = .returned v) ∧ J [] W' := by
  refine callsIn_of_wp Try.func117 rfl h7 ?_ hro
  simp only [Try.ntmps117, List.size_toArray, List.length_cons, List.length_nil, Nat.reduceAdd, Nat.reduceSub, Array.replicate_succ, Array.replicate_zero, List.push_toArray, List.append_toArray, List.nil_append, List.cons_append]
  gi_wp2
  gi_loopw [7] (fun i wr => i = .int .i64 0 ∧ J [] wr) (fun _ _ => 0)
  case atStart => exact ⟨rfl, h0⟩
  case round =>
    obtain ⟨rfl, hJs⟩ := hrel
    gi_wp2
    go_end0
    exact ⟨⟨_, rfl⟩, hJs⟩
def Ints (w : World) (sv : Value) (zs : List Int) : Prop :=
  (∃ a cap, sv = .slice a 0 cap ∧ zs = []) ∨ ∃ b off cap, sv = .slice (some ⟨b, off, none⟩) zs.length cap ∧ b < w.heap.size ∧ ∀ j, j < zs.length → w.cell? ⟨b, off + j, none⟩ = some (.int .i64 (zs[j]?.getD 0))
theorem values_b (F : Fence) (n : Nat) (h7 : F.fn 117) (hro : F.round = none) (hn : 1 ≤ n) (Bs : Nat) (sv : Value) (zs : List Int) (hreach : zs.length * 8 ≤ 140737488351232) (w : World) (hBs : Bs < w.heap.size)
    (hc : w.cell? ⟨Bs, 0, none⟩ = some sv) (hI : Ints w sv zs) : SeqB F n Try.prog 117 #[.pointer (some ⟨Bs, 0, none⟩)] (fun ys => ys = zs) zs.length w := fun l J W hW _ hJ hY h0 => by
  have hc' := (hW.cell (p := ⟨Bs, 0, none⟩) hBs).trans hc
  rcases hI with ⟨a, cap, rfl, rfl⟩ | ⟨b, off, cap, rfl, hb, hcs⟩
  · exact (values1_none_b F n h7 hro l Bs a cap J W hc' h0).mono fun e W' ⟨he, hj⟩ => ⟨he, _, rfl, hj⟩
  · refine (values1_b F n h7 hro hn l Bs b off zs.length cap zs hreach J (fun ss W1 h j hj => ((hJ ss W1 h).cell (p := ⟨b, off + j, none⟩) hb).trans (hcs j hj)) hY W hc' h0).mono ?_
    rintro e W' ⟨he, hj⟩
    exact ⟨he, _, first_all zs, hj⟩
def SortsIn (F : Fence) (m : Nat) : Prop :=
  (∀ (blk off cap : Nat) (ss : List Int) (W : World), Holds encZ W blk off ss.toArray → blk < W.heap.size → ss.length < 4611686018427387904 →
    CallsIn F m Try.prog 116 #[.slice (some ⟨blk, off, none⟩) ss.length cap] W fun e w' => e = .returned (.tuple #[]) ∧ ∃ k os, w' = grow (putRow encZ (Sort.ahead W k) blk off (ss.mergeSort fun x y => decide (x ≤ y)).toArray) os) ∧
  (∀ (p : Option Addr) (cap : Nat) (W : World), CallsIn F m Try.prog 116 #[.slice p 0 cap] W fun e w' => e = .returned (.tuple #[]) ∧ w' = W)
theorem sorts_wide (m : Nat) : SortsIn Fence.wide m :=
  ⟨fun blk off cap ss W hH hblk hsz => callsIn_wide.2 (AnyM.slices_Sort_int Try.sortA blk off cap ss W hH hblk hsz),
   fun p cap W => callsIn_wide.2 (AnyM.slices_Sort_int_none Try.sortA p cap W)⟩
set_option maxRecDepth 100000 in
set_option maxHeartbeats 2000000 in
theorem appendSeq_b (F : Fence) (n : Nat) (h11 : F.fn 138) (hro : F.round = none) (hn : 2 ≤ n) (g : Nat) (lb : Array Value) (hFg : F.fn g) (eg : ∀ args w, (callFunc g args).run Try.prog w = .ok (.enter g args) w)
    (S : List Int → Prop) (N : Nat) (hN : N ≤ maxLen) (hNb : N * 8 ≤ 140737488355328) (w : World) (hseq : SeqB F (n - 1) Try.prog g lb S N w) :
    CallsIn F n Try.prog 138 #[.slice none 0 0, .func (.func g) #[] lb] w fun e w' => ∃ (v : Value) (ss : List Int), e = .returned v ∧ S ss ∧ w'.ownsRow w.heap.size 2 1 v ss.length (ss.map encZ) ∧ (v = .slice none 0 0 ↔ ss = []) ∧ Below w.heap.size w w' := by
  have h1 : 1 ≤ n := by omega
  refine callsIn_of_wp_marks Try.func138 rfl h11 ?_ hro
  simp only [Try.ntmps138, List.size_toArray, List.length_cons, List.length_nil, Nat.reduceAdd, Nat.reduceSub, Array.replicate_succ, Array.replicate_zero, List.push_toArray, List.append_toArray, List.nil_append, List.cons_append]
  gi_wp2
  refine wpIn_rangeFunc ?_
  intro fn hfn
  rw [hro]
  obtain ⟨W0, hW0⟩ : ∃ W0, w.alloc (.cells #[.slice none 0 0] 22) = W0 := ⟨_, rfl⟩
  have hs0 : W0.heap.size = w.heap.size + 1 := by rw [← hW0]; simp
  have hv0 : W0.heap[w.heap.size]? = some (.cells #[.slice none 0 0] 22 (0, 0)) := by rw [← hW0]; exact World.alloc_heap_new w _
  have hb0 : Below w.heap.size w W0 := by rw [← hW0]; exact (Below.refl _ w).alloc (Nat.le_refl _) _
  rw [hW0]
  obtain ⟨W1, hW1⟩ : ∃ W1, (W0.alloc (.deferred (some []))).alloc (.loop (AnyZI.apRec Try.sorted_ren fn (.func (.func g) #[] lb) w.heap.size W0.heap.size .ready none)) = W1 := ⟨_, rfl⟩
  have hold : ∀ k, k < W0.heap.size → W1.heap[k]? = W0.heap[k]? := fun k hk => by
    rw [← hW1]; exact (Below.heap_alloc _ _ k (by simp; omega)).trans (Below.heap_alloc _ _ k hk)
  have hb1 : Below w.heap.size w W1 := by rw [← hW1]; exact (hb0.alloc hb0.size _).alloc (by have := hb0.size; simp; omega) _
  have hs1 : W1.heap.size = W0.heap.size + 2 := by rw [← hW1]; simp
  have hM : AnyZI.ApAt Try.sorted_ren w fn (.func (.func g) #[] lb) w.heap.size (W0.heap.size + 1) W0.heap.size [] W1 :=
    ⟨⟨_, (hold w.heap.size (by omega)).trans hv0, ⟨rfl, .inl ⟨rfl, rfl⟩⟩, by simp⟩,
     by rw [← hW1]; have := World.alloc_heap_new (W0.alloc (.deferred (some []))) (.loop (AnyZI.apRec Try.sorted_ren fn (.func (.func g) #[] lb) w.heap.size W0.heap.size .ready none)); rwa [World.size_alloc] at this,
     by rw [← hW1]; exact (Below.heap_alloc _ _ _ (by simp)).trans (World.alloc_heap_new W0 _), hb1⟩
  refine ⟨W0.heap.size + 1, [{ target := .collected W0.heap.size, args := #[] }], W1, { target := .fn (.func g) lb, args := #[.func (.yield (W0.heap.size + 1)) #[] #[]] }, W1, g,
    #[.func (.yield (W0.heap.size + 1)) #[] #[]] ++ lb, W1, ?_, ?_, ?_, ?_, fun _ => h1, ?_⟩
  · rw [← hW1]; exact run_enterLoop_outer _ _ _ _ _
  · simp [resolve, go_sem]
  · intro f' hf'; simp [Target.leads] at hf'; subst hf'; exact hFg
  · simp [invoke, go_sem, eg]
  · refine (hseq (W0.heap.size + 1) (AnyZI.ApAt Try.sorted_ren w fn (.func (.func g) #[] lb) w.heap.size (W0.heap.size + 1) W0.heap.size) W1 hb1 (AnyZI.ap_abides Try.sorted_ren _ _ _ _ _ _ _ hb1.size) (fun ss W h => h.below)
      (fun pre x W hJ hl => AnyZI.apYield (ρ := Try.sorted_ren) { Try.sorted with } F (n - 1 - 1) w fn hfn _ w.heap.size (W0.heap.size + 1) W0.heap.size (by omega) (by omega) (by omega) (Nat.le_refl _) (by omega) N hN hNb pre x W hJ hl) hM).mono ?_
    rintro e W2 ⟨⟨v0, rfl⟩, ss, hS, h2⟩
    obtain ⟨v, hv, hrow, hnil⟩ := h2.box
    have hend := run_endLoop (P := Try.prog) h2.L (by simp [AnyZI.apRec])
    obtain ⟨W3, hW3⟩ : ∃ W3, W2.putObj (W0.heap.size + 1) (.loop { AnyZI.apRec Try.sorted_ren fn (.func (.func g) #[] lb) w.heap.size W0.heap.size .ready none with state := .exhausted }) = W3 := ⟨_, rfl⟩
    rw [hW3] at hend
    have hg3 : W2.grownBy W3 (some (W0.heap.size + 1)) := by rw [← hW3]; exact grownBy_putObj_a _ _ _
    have hv3 : W3.heap[w.heap.size]? = some (.cells #[v] 22 (0, 0)) := by rw [← hW3]; exact (World.putObj_heap_other (by omega)).trans hv
    have hK3 : W3.heap[W0.heap.size]? = some (.deferred (some [])) := by rw [← hW3]; exact (World.putObj_heap_other (by omega)).trans h2.K
    have hrow3 := hrow.kept hg3 (ownsRow_ne_a hrow h2.L (fun cur e => by cases e))
    have hb3 : Below w.heap.size w W3 := h2.below.grown hg3 h2.below.size (fun k e => by cases e; omega)
    obtain ⟨hc3, hf3⟩ := cell_of_box_a hv3
    clear hW3
    refine ⟨none, W3, hend, ?_⟩
    gi_wp2
    rw [← hs0]
    refine ⟨by simp, .inl ⟨_, _, rfl, run_takeDeferred hK3, ?_⟩⟩
    exact ⟨_, results_tmp rfl _ _ _, v, ss, rfl, hS, hrow3.kept (grownBy_putObj_a _ _ _) (ownsRow_ne_a hrow3 hK3 (fun cur e => by cases e)), hnil, hb3.grown (grownBy_putObj_a _ _ _) hb3.size (fun k e => by cases e; omega)⟩
set_option maxRecDepth 100000 in
set_option maxHeartbeats 2000000 in
theorem collect_b (F : Fence) (n : Nat) (h8 : F.fn 115) (h11 : F.fn 138) (hro : F.round = none) (hn : 3 ≤ n) (g : Nat) (lb : Array Value) (hFg : F.fn g) (eg : ∀ args w, (callFunc g args).run Try.prog w = .ok (.enter g args) w)
    (S : List Int → Prop) (N : Nat) (hN : N ≤ maxLen) (hNb : N * 8 ≤ 140737488355328) (w : World) (hseq : SeqB F (n - 1 - 1) Try.prog g lb S N w) :
    CallsIn F n Try.prog 115 #[.func (.func g) #[] lb] w fun e w' => ∃ (v : Value) (ss : List Int), e = .returned v ∧ S ss ∧ w'.ownsRow w.heap.size 2 1 v ss.length (ss.map encZ) ∧ (v = .slice none 0 0 ↔ ss = []) ∧ Below w.heap.size w w' := by
  have h1 : 1 ≤ n := by omega
  refine callsIn_of_wp Try.func115 rfl h8 ?_ hro
  simp only [Try.ntmps115, List.size_toArray, List.length_cons, List.length_nil, Nat.reduceAdd, Nat.reduceSub, Array.replicate_succ, Array.replicate_zero, List.push_toArray, List.append_toArray, List.nil_append, List.cons_append]
  gi_wp2_with (gi_at_call 138; refine (appendSeq_b F (n - 1) h11 hro (by omega) g lb hFg eg S N hN hNb _ hseq).mono ?_; rintro e w' ⟨v, ss, rfl, hS, hrow, hnil, hb⟩)
  go_ret
  exact ⟨v, ss, rfl, hS, hrow, hnil, hb⟩
set_option maxRecDepth 100000 in
set_option maxHeartbeats 2000000 in
theorem sorted_b (F : Fence) (n : Nat) (h6 : F.fn 82) (h8 : F.fn 115) (h9 : F.fn 116) (h11 : F.fn 138) (hro : F.round = none) (hn : 4 ≤ n) (hsort : SortsIn F (n - 1)) (g : Nat) (lb : Array Value) (hFg : F.fn g) (eg : ∀ args w, (callFunc g args).run Try.prog w = .ok (.enter g args) w)
    (S : List Int → Prop) (N : Nat) (hN : N ≤ maxLen) (hNb : N * 8 ≤ 140737488355328) (w : World) (hSN : ∀ ss, S ss → ss.length ≤ N) (hseq : SeqB F (n - 1 - 1 - 1) Try.prog g lb S N w) :
    CallsIn F n Try.prog 82 #[.func (.func g) #[] lb] w fun e w' => ∃ (v : Value) (ss : List Int), e = .returned v ∧ S ss ∧
      w'.ownsRow w.heap.size 2 1 v ss.length ((ss.mergeSort (fun x y => decide (x ≤ y))).map encZ) ∧ (v = .slice none 0 0 ↔ ss = []) ∧ Below w.heap.size w w' := by
  have h1 : 1 ≤ n := by omega
  refine callsIn_of_wp Try.func82 rfl h6 ?_ hro
  simp only [Try.ntmps82, List.size_toArray, List.length_cons, List.length_nil, Nat.reduceAdd, Nat.reduceSub, Array.replicate_succ, Array.replicate_zero, List.push_toArray, List.append_toArray, List.nil_append, List.cons_append]
  gi_wp2_with (gi_at_call 115; refine (collect_b F (n - 1) h8 h11 hro (by omega) g lb hFg eg _ N hN hNb _ hseq).mono ?_; rintro e W ⟨v, ss, rfl, hS, hrow, hnil, hb⟩)
  rcases hrow.2 with ⟨rfl, hz⟩ | ⟨gb, cap, cur, rfl, hbase, hgb, r1, r2, r3, r4⟩
  · -- nothing came: the nil slice is sorted and handed back
    have hss : ss = [] := List.eq_nil_of_length_eq_zero hz
    subst hss
    gi_wp2_with (gi_at_call 116; refine (hsort.2 none 0 W).mono ?_; rintro e w' ⟨rfl, rfl⟩)
    go_ret
    exact ⟨.slice none 0 0, [], rfl, hS, by simpa using hrow, by simp, hb⟩
  · have hH : Holds encZ W gb 0 ss.toArray := holds_of_block_i hgb (by simpa using r4)
    have hgl : gb < W.heap.size := (Array.getElem?_eq_some_iff.1 hgb).1
    have hsz : ss.length < 4611686018427387904 := by have := hSN ss hS; omega
    have cS := hsort.1 gb 0 cap ss W hH hgl hsz
    gi_wp2_with (gi_at_call 116; refine cS.mono ?_; rintro e w' ⟨rfl, nn, os, rfl⟩)
    go_ret
    exact ⟨_, ss, rfl, hS, ownsRow_sorted_i (by simp) hbase hgb r1 r2 r3, hnil, hb.grown (grownBy_sorted_i _) hb.size (fun j hj => by cases hj; exact hbase)⟩
/-! ### as plain states have it -/
open Go.Pl Go.Bag
def encIL' (l : List Int) : CV := .sl (l.map fun n => [.int .i64 n])
theorem pcallC_of {P : Program} {f : FuncId} {cs : List CV} {r : CV}
    (h : ∀ (w : World) (O : Nat → Prop) (vs : Array Value), vs.size = cs.length → (∀ (i : Nat) (h1 : i < vs.size) (h2 : i < cs.length), V w O vs[i] cs[i]) → (∀ b, O b → b < w.heap.size) →
      Calls P f vs w fun e w' => ∃ v, e = .returned v ∧ V w' O v r ∧ Below w.heap.size w w') : PCallG P f (cs.map .c) (.c r) [] := by
  intro w O A β vs hsz hS
  have hn : vs.size = cs.length := by simpa using hsz
  refine (h w O vs hn (fun i h1 h2 => ?_) (fun b hb => (hS.outer b hb).1)).mono ?_
  · have ht := hS.temps i
    have e1 : (initPS (cs.map AV.c)).t i = .c cs[i] := by simp [initPS, h2]
    have e2 : vs.getD i undef = vs[i] := by simp [h1]
    rw [e1, e2] at ht
    exact V.ext (.of_less fun b hb => .inl hb) ht
  · rintro e w' ⟨v, rfl, hv, hb⟩
    refine ⟨v, fun _ => none, rfl, ⟨hb.os, hb.tape, hb.output, hb.size, fun b hlt _ => hb.block b hlt, fun i => ?_, fun d => ?_, fun d d' p p' _ ho hd => (by simp at *), fun d p _ hd => (by simp at hd), fun b hO => hS.outer b hO⟩, fun i c hi => ?_⟩
    · by_cases hi : i = (cs.map AV.c).length
      · simp only [hi, if_true, retPS]
        exact V.ext (.of_less fun b hb => by
          rcases hb with hb | ⟨_, _, _, hb⟩
          · exact hb
          · cases hb) hv
      · simp only [if_neg hi, retPS]; trivial
    · have : ((retPS (cs.map AV.c) (.c r) []).bx d).st = .dead := by
        simp only [retPS]
        split
        · rfl
        · simp only [List.getElem?_map]
          cases cs[d]? <;> rfl
      rw [this]; trivial
    · simp only [List.getElem?_map] at hi
      cases hc : cs[i]? <;> rw [hc] at hi <;> cases hi
theorem ints_of {w : World} {N : Nat → Prop} {v : Value} {l : List Int} (h : V w N v (encIL' l)) : Ints w v l := by
  unfold encIL' at h
  generalize he : (l.map fun n => [CV.int .i64 n]) = es at h
  cases h with
  | nil => exact .inl ⟨none, 0, rfl, by cases l <;> simp_all⟩
  | emp a cap => exact .inl ⟨some a, cap, rfl, by cases l <;> simp_all⟩
  | sl b off cap sz _ c hb hN hz hcap h1 hread hVV =>
    subst he
    refine .inr ⟨b, off, cap, by simp, hb, fun j hj => ?_⟩
    have hj' : j < (l.map fun n => [CV.int .i64 n]).length := by simpa using hj
    have hs : sz = 1 := by
      have := hz _ (List.getElem_mem hj')
      simpa using this.symm
    have h0 : 0 < (l.map fun n => [CV.int .i64 n])[j].length := by simp
    have h1 := hread j 0 hj' h0
    have h2 := hVV j 0 hj' h0
    subst hs
    rw [show off + j = off + (j * 1 + 0) by omega, h1]
    have e : (l.map fun n => [CV.int .i64 n])[j][0] = CV.int .i64 l[j] := by simp
    rw [e] at h2
    rw [V.int_inv h2]
    simp [hj]
theorem V_of_ownsRow {w' : World} {O : Nat → Prop} {base : Nat} {v : Value} {zs : List Int} (hO : ∀ b, O b → b < base) (h : w'.ownsRow base 2 1 v zs.length (zs.map encZ)) : V w' O v (encIL' zs) := by
  unfold encIL'
  rcases h.2 with ⟨rfl, h0⟩ | ⟨g, cap, cur, rfl, hb, hg, h1, h2, h3, h4⟩
  · obtain rfl : zs = [] := List.eq_nil_of_length_eq_zero h0
    exact .nil
  · have hlt : g < w'.heap.size := (Array.getElem?_eq_some_iff.1 hg).1
    have := V.sl (w := w') (N := O) g 0 cap 1 (zs.map fun n => [CV.int .i64 n]) (fun i _ => .int .i64 (zs[i]?.getD 0)) hlt (fun h => by have := hO g h; omega) (fun e he => by
        obtain ⟨n, _, rfl⟩ := List.mem_map.1 he
        rfl) (by simpa using h1) (fun e he c hc => by
        obtain ⟨n, _, rfl⟩ := List.mem_map.1 he
        simp at hc
        subst hc
        rfl) (fun i j hi hj => by
        have hi' : i < zs.length := by simpa using hi
        obtain rfl : j = 0 := by simp at hj; omega
        have : cur[i]? = some (encZ zs[i]) := by
          have e : (cur.toList.take (zs.length * 1))[i]? = (zs.map encZ)[i]? := by rw [h4]
          rw [List.getElem?_take, if_pos (by omega)] at e
          simpa [hi'] using e
        simp only [World.cell?, hg]
        simp [this, hi', encZ]) (fun i j hi hj => by
        have hi' : i < zs.length := by simpa using hi
        obtain rfl : j = 0 := by simp at hj; omega
        simp [hi']
        exact .int _ _)
    simpa using this
theorem C_Values (l : List Int) : PCallG Try.prog 83 [.c (encIL' l)] (.c (.clo 117 (encIL' l))) [] := by
  refine pcallC_of (cs := [encIL' l]) fun w O vs hn hV hO => ?_
  have hn1 : vs.size = 1 := by simpa using hn
  have hv := hV 0 (by omega) (by simp)
  obtain ⟨v, rfl⟩ : ∃ v, vs = #[v] := ⟨vs[0]'(by omega), by
    apply Array.ext
    · simpa using hn1
    · intro i h1 h2
      obtain rfl : i = 0 := by simp at h2; omega
      rfl⟩
  have hv : V w O v (encIL' l) := hv
  obtain ⟨a, len, cap, rfl⟩ : ∃ a len cap, v = .slice a len cap := by
    unfold encIL' at hv
    generalize (l.map fun n => [CV.int .i64 n]) = es at hv
    cases hv <;> exact ⟨_, _, _, rfl⟩
  refine calls_of_wp Try.func83 rfl ?_
  simp only [Try.ntmps83, List.size_toArray, List.length_cons, List.length_nil, Nat.reduceAdd, Nat.reduceSub, Array.replicate_succ, Array.replicate_zero, List.push_toArray, List.append_toArray, List.nil_append, List.cons_append]
  go_wp2
  go_ret
  refine ⟨_, rfl, ?_, (Below.refl _ w).alloc (Nat.le_refl _) _⟩
  refine V.clo 117 w.heap.size (.slice a len cap) _ (by simp) (fun h => by have := hO _ h; omega) ?_ (hv.ext ⟨by simp, fun b hb _ => Below.heap_alloc _ _ b hb, fun b _ h => h⟩)
  show (match (w.alloc (.cells #[.slice a len cap] 22)).heap[w.heap.size]? with | some (Obj.cells c _ _) => c[0]? | _ => none) = _
  rw [World.alloc_heap_new]
  rfl
theorem C_Sorted (l : List Int) (hlen : l.length < 1000000000) : PCallG Try.prog 82 [.c (.clo 117 (encIL' l))] (.c (encIL' (srt l))) [] := by
  refine pcallC_of (cs := [.clo 117 (encIL' l)]) fun w O vs hn hV hO => ?_
  have hn1 : vs.size = 1 := by simpa using hn
  have hv := hV 0 (by omega) (by simp)
  obtain ⟨v, rfl⟩ : ∃ v, vs = #[v] := ⟨vs[0]'(by omega), by
    apply Array.ext
    · simpa using hn1
    · intro i h1 h2
      obtain rfl : i = 0 := by simp at h2; omega
      rfl⟩
  have hv : V w O v (.clo 117 (encIL' l)) := hv
  cases hv with
  | clo _ b sv _ hb hN hr h =>
    have hm : maxLen = 9223372036854775807 := rfl
    have hseq := values_b Fence.wide 1 trivial rfl (Nat.le_refl _) b sv l (by omega) w hb hr (ints_of h)
    refine (callsIn_wide (n := 4)).1 ((sorted_b Fence.wide 4 trivial trivial trivial trivial rfl (Nat.le_refl _) (sorts_wide _) 117 _ trivial (enters_of Try.func117 (by kernel_rfl) rfl) _ l.length (by omega) (by omega) w (fun ss h => by rw [h]; exact Nat.le_refl _) hseq).mono ?_)
    rintro e w' ⟨v, ss, rfl, rfl, hrow, _, hbl⟩
    refine ⟨v, rfl, ?_, hbl⟩
    have hl : ss.length = (srt ss).length := (srt_perm ss).length_eq.symm
    rw [hl] at hrow
    exact V_of_ownsRow hO hrow
end Go.Proofs.Ytcmejdkjfekoeaa
namespace Go.Proofs.Ytcmejdkjfekoeaa
open Go.Pl
set_option maxHeartbeats 4000000
def encI (a : Int) : List CV := [.int .i64 a]
def encIL (l : List Int) : CV := .sl (l.map encI)
def totI : List Int → Int
  | [] => 0
  | a :: l => a + totI l
def I64s (l : List Int) : Prop := ∀ a ∈ l, I64 a
theorem total_loop {K : Ex → PS → Prop} (l : List Int) (v4 : Nat) (hlen : l.length < 1000000000) : ∀ (rest : List Int) (i : Nat) (z : Int) (s : PS), l.drop i = rest → i ≤ l.length → I64s rest →
    -(9223372036854775808 * (i : Int)) ≤ z → z ≤ 9223372036854775808 * (i : Int) →
    s.t 7 = .c (encIL l) → s.t 8 = .c (.int .i64 l.length) → s.t 9 = .c (.int .i64 i) → s.t 4 = .ptr 4 v4 0 → s.bx 4 = ⟨v4, .var (cellsW z)⟩ →
    (∀ s', s'.t 4 = .ptr 4 v4 0 → s'.bx 4 = ⟨v4, .var (cellsW (z + totI rest))⟩ → W128 (z + totI rest) → K (.x 0) s') → wP (PCallG Try.prog) (.loop b32_0) s K := by
  intro rest
  induction rest with
  | nil =>
    intro i z s hd hi hr h0 h1 t7 t8 t9 t4 b4 hx
    refine w_loop ?_
    have hi' : i = l.length := by have := List.drop_eq_nil_iff.mp hd; omega
    subst hi'
    rw [← put_same t8, ← put_same t9, ← put_same t4, ← box_same b4]
    unfold b32_0 r32_3 r32_4 r32_5 r32_6
    repeat' (first | refine w_seq ?_ | refine w_ops ?_ | refine st_nil ?_ | refine th_n ?_ | refine th_x ?_ | refine w_exit ?_ | refine w_false rfl ?_ | refine lss_f rfl rfl (by omega) ?_)
    exact hx _ (by rfl) (by simp only [totI, Int.add_zero]; rfl) (by simp only [totI, Int.add_zero]; constructor <;> omega)
  | cons a rest ih =>
    intro i z s hd hi hr h0 h1 t7 t8 t9 t4 b4 hx
    refine w_loop ?_
    have hl : i < l.length := by have := congrArg List.length hd; simp at this; omega
    have hn : l.drop (i + 1) = rest := by have := congrArg List.tail hd; simpa [List.tail_drop] using this
    have he : (l.map encI)[i]? = some (encI a) := by
      have : l[i]? = some a := by have := congrArg List.head? hd; simpa [List.head?_drop] using this
      simp [this]
    have ha := hr a (by simp)
    have hr' : I64s rest := fun b hb => hr b (by simp [hb])
    obtain ⟨a1, a2⟩ := ha
    have hP := C_Plus z a 1 (by constructor <;> omega) ⟨a1, a2⟩ (by constructor <;> omega) (by constructor <;> omega)
    rw [Int.mul_one] at hP
    have e : z + totI (a :: rest) = z + a + totI rest := by simp only [totI]; omega
    rw [e] at hx
    rw [← put_same t7, ← put_same t8, ← put_same t9, ← put_same t4, ← box_same b4]
    unfold b32_0 r32_3 r32_4 r32_5 r32_6
    repeat' (first | refine call3 rfl rfl rfl hP ?_ | refine w_seq ?_ | refine w_ops ?_ | refine st_nil ?_ | refine th_n ?_ | refine bk_n ?_ | refine w_block ?_ | refine w_skip ?_ | refine w_true rfl ?_ | refine mv_c rfl ?_ | refine lss_t rfl rfl (by omega) ?_ | refine add_in rfl rfl (by omega) ?_ | refine load_rp rfl (Nat.le_of_ble_eq_true rfl) rfl ?_ | refine load_ptr rfl (by decide) rfl (Nat.le_of_ble_eq_true rfl) rfl ?_ | refine store_ptr rfl rfl (by decide) rfl rfl (Nat.le_of_ble_eq_true rfl) rfl ?_ | refine iaS_c rfl rfl (by omega) (by assumption) rfl ?_)
    exact ih (i + 1) (z + a) _ hn (by omega) hr' (by omega) (by omega) (by rfl) (by rfl) (by rfl) (by rfl) (by rfl) hx
def totB (l : List Int) : CV := if I64 (totI l) then .tup [.int .i64 (totI l), .bool true] else .tup [.int .i64 0, .bool false]
theorem C_Total (l : List Int) (hlen : l.length < 1000000000) (hr : I64s l) : PCallG Try.prog 32 [.c (encIL l)] (.c (totB l)) [] := by
  refine pcallF Try.func32 c32 rfl ?_
  unfold p32 r32_0 r32_1 r32_2 r32_7
  repeat' (first | refine w_seq ?_ | refine w_ops ?_ | refine st_nil ?_ | refine th_n ?_ | refine w_block ?_ | refine mv_c rfl ?_ | refine alloc_ (fun u => ?_) | refine len_sl rfl (by first | assumption | exact List.length_map _) ?_)
  refine total_loop l _ hlen l 0 0 _ rfl (by omega) hr (by omega) (by omega) (by rfl) (by rfl) (by rfl) (by rfl) (by rfl) ?_
  intro s' t4 b4 hW
  rw [Int.zero_add] at b4 hW
  have hI := C_Int _ hW
  rw [← put_same t4, ← box_same b4]
  by_cases h : I64 (totI l)
  · rw [if_pos h] at hI
    repeat' (first | refine call1 rfl hI ?_ | refine w_seq ?_ | refine w_ops ?_ | refine st_nil ?_ | refine th_n ?_ | refine bk_x ?_ | refine w_ret ?_ | refine mv_c rfl ?_ | refine load_ptr rfl (by decide) rfl (Nat.le_of_ble_eq_true rfl) rfl ?_ | refine ext_ rfl rfl ?_)
    exact fin_r rfl (by simp [one_, totB, h])
  · rw [if_neg h] at hI
    repeat' (first | refine call1 rfl hI ?_ | refine w_seq ?_ | refine w_ops ?_ | refine st_nil ?_ | refine th_n ?_ | refine bk_x ?_ | refine w_ret ?_ | refine mv_c rfl ?_ | refine load_ptr rfl (by decide) rfl (Nat.le_of_ble_eq_true rfl) rfl ?_ | refine ext_ rfl rfl ?_)
    exact fin_r rfl (by simp [one_, totB, h])
end Go.Proofs.Ytcmejdkjfekoeaa
namespace Go.Proofs.Ytcmejdkjfekoeaa
open Go.Pl Go.Bag
set_option maxHeartbeats 4000000
theorem fin_own' {i d ver n : Nat} {sz : Nat} {es zs : List (List CV)} {s : PS} (h : s.t i = .osl d ver 0 n) (hb : s.bx d = ⟨ver, .sl sz zs⟩) (hz : zs = es) (hn : n = zs.length) : FinK [.t i] (.own sz es) .r s := by
  subst hz; exact fin_own h hb hn
theorem set_last (k : List Run) (r q : Run) : (encE (k ++ [r])).set k.length (encR q) = encE (k ++ [q]) := by
  simp [encE, List.set_append]
theorem C_more (l : List Run) (v n : Int) (hlen : l.length < 1000000000) (hb : ∀ r ∈ l, -9223372036854775808 ≤ r.2 + n ∧ r.2 + n ≤ 9223372036854775807) :
    PCallG Try.prog 84 [.own 2 (encE l), .c (.int .i64 v), .c (.int .i64 n)] (.own 2 (encE (moreL l v n))) [] := by
  refine pcallF Try.func84 c84 rfl ?_
  unfold p84 r84_0 r84_1 r84_2 r84_3 r84_4 r84_5
  rcases snoc_cases l with rfl | ⟨k, r, rfl⟩
  · have hg : (encE []).length = 0 := rfl
    have hm : ([] : List (List CV)).length + [[CV.int .i64 v, .int .i64 n]].length ≤ maxGrow := by simp [maxGrow]
    repeat' (first | refine w_seq ?_ | refine w_ops ?_ | refine st_nil ?_ | refine th_n ?_ | refine w_skip ?_ | refine w_ret ?_ | refine w_false rfl ?_ | refine g_no rfl ?_ | refine mv_c rfl ?_ | refine mv_osl rfl ?_ | refine pick_f rfl rfl ?_ | refine geq_f rfl rfl (by omega) ?_ | refine sub_in rfl rfl (by omega) ?_ | refine own0_ (fun u => ?_) | refine build_ rfl rfl ?_ | refine bsl_ rfl rfl ?_ | refine len_osl rfl rfl ?_ | refine app_own rfl rfl rfl rfl (by first | assumption | omega | (simp; omega)) (by first | (intro e he; cases List.mem_singleton.mp he; rfl) | assumption) rfl rfl (fun _ _ => ?_))
    exact fin_own rfl rfl rfl
  · have hr := hb r (by simp)
    have hk : (encE (k ++ [r])).length = k.length + 1 := by simp [encE]
    have hk9 : k.length < 1000000000 := by simp only [List.length_append, List.length_cons, List.length_nil] at hlen; omega
    have hn : (((k.length + 1 : Nat) : Int) - 1).toNat = k.length := by omega
    have hget : (encE (k ++ [r]))[(((encE (k ++ [r])).length : Int) - 1).toNat]? = some (encR r) := by rw [hk, hn]; simp [encE]
    have hgrow : (encE (k ++ [r])).length + [[CV.int .i64 v, .int .i64 n]].length ≤ maxGrow := by
      rw [hk]; simp [maxGrow] at *; omega
    by_cases hv : r.1 = v
    · subst hv
      rw [moreL_eq]
      repeat' (first | refine w_seq ?_ | refine w_ops ?_ | refine st_nil ?_ | refine th_n ?_ | refine th_r ?_ | refine w_ret ?_ | refine w_true rfl ?_ | refine g_yes rfl ?_ | refine mv_c rfl ?_ | refine mv_osl rfl ?_ | refine pick_t rfl rfl ?_ | refine geq_t rfl rfl (by omega) ?_ | refine eql_t rfl rfl (by omega) ?_ | refine add_in rfl rfl (by omega) ?_ | refine sub_in rfl rfl (by omega) ?_ | refine own0_ (fun u => ?_) | refine load_sp rfl (by decide) rfl (by assumption) (Nat.le_of_ble_eq_true rfl) rfl ?_ | refine store_sp rfl rfl (by decide) rfl (by assumption) rfl (Nat.le_of_ble_eq_true rfl) rfl ?_ | refine fad_sp rfl rfl rfl ?_ | refine iaS_osl rfl rfl rfl (by omega) rfl ?_ | refine len_osl rfl rfl ?_)
      refine fin_own' rfl rfl ?_ ?_
      · rw [← set_last k r (r.1, r.2 + n), hk, hn]
        rfl
      · rw [List.length_set]
    · rw [moreL_ne k r v n hv]
      repeat' (first | refine w_seq ?_ | refine w_ops ?_ | refine st_nil ?_ | refine th_n ?_ | refine w_skip ?_ | refine w_ret ?_ | refine w_false rfl ?_ | refine g_yes rfl ?_ | refine mv_c rfl ?_ | refine mv_osl rfl ?_ | refine pick_t rfl rfl ?_ | refine geq_t rfl rfl (by omega) ?_ | refine eql_f rfl rfl (by omega) ?_ | refine sub_in rfl rfl (by omega) ?_ | refine own0_ (fun u => ?_) | refine build_ rfl rfl ?_ | refine bsl_ rfl rfl ?_ | refine load_sp rfl (by decide) rfl (by assumption) (Nat.le_of_ble_eq_true rfl) rfl ?_ | refine fad_sp rfl rfl rfl ?_ | refine iaS_osl rfl rfl rfl (by omega) rfl ?_ | refine len_osl rfl rfl ?_ | refine app_own rfl rfl rfl rfl (by first | assumption | omega | (simp; omega)) (by first | (intro e he; cases List.mem_singleton.mp he; rfl) | assumption) rfl rfl (fun _ _ => ?_))
      refine fin_own' rfl rfl ?_ ?_
      · simp [encE]; rfl
      · rfl
end Go.Proofs.Ytcmejdkjfekoeaa
namespace Go.Proofs.Ytcmejdkjfekoeaa
open Go.Pl Go.Bag
set_option maxHeartbeats 8000000
theorem of_loop {K : Ex → PS → Prop} (l : List Int) (hlen : l.length < 400000000) : ∀ (rest : List Int) (i : Nat) (out : List Run) (s : PS), l.drop i = rest → i ≤ l.length → pos out → out.length ≤ i → sum out ≤ i →
    s.t 8 = .c (encIL l) → s.t 9 = .c (.int .i64 l.length) → s.t 10 = .c (.int .i64 i) → s.t 3 = .osl 3 (s.bx 3).ver 0 (encE out).length → s.bx 3 = ⟨(s.bx 3).ver, .sl 2 (encE out)⟩ →
    (∀ s' v, s'.t 3 = .osl 3 v 0 (encE (ofS out rest)).length → s'.bx 3 = ⟨v, .sl 2 (encE (ofS out rest))⟩ → K (.x 0) s') → wP (PCallG Try.prog) (.loop b21_0) s K := by
  intro rest
  induction rest with
  | nil =>
    intro i out s hd hi hp hl hs t8 t9 t10 t3 b3 hx
    refine w_loop ?_
    have hi' : i = l.length := by have := List.drop_eq_nil_iff.mp hd; omega
    subst hi'
    generalize (s.bx 3).ver = v3 at t3 b3
    rw [← put_same t8, ← put_same t9, ← put_same t10, ← put_same t3, ← box_same b3]
    unfold b21_0 r21_3 r21_4 r21_5 r21_6
    repeat' (first | refine w_seq ?_ | refine w_ops ?_ | refine st_nil ?_ | refine th_n ?_ | refine th_x ?_ | refine w_exit ?_ | refine w_false rfl ?_ | refine lss_f rfl rfl (by omega) ?_)
    exact hx _ _ (by rfl) (by rfl)
  | cons a rest ih =>
    intro i out s hd hi hp hl hs t8 t9 t10 t3 b3 hx
    refine w_loop ?_
    have hil : i < l.length := by have := congrArg List.length hd; simp at this; omega
    have hn : l.drop (i + 1) = rest := by have := congrArg List.tail hd; simpa [List.tail_drop] using this
    have he : (l.map encI)[i]? = some (encI a) := by
      have : l[i]? = some a := by have := congrArg List.head? hd; simpa [List.head?_drop] using this
      simp [this]
    have hM := C_more out a 1 (by omega) fun q hq => by have := le_sum hp q hq; omega
    generalize (s.bx 3).ver = v3 at t3 b3
    rw [← put_same t8, ← put_same t9, ← put_same t10, ← put_same t3, ← box_same b3]
    unfold b21_0 r21_3 r21_4 r21_5 r21_6
    repeat' (first | refine callO2 rfl rfl rfl rfl rfl hM rfl (fun _ _ => ?_) | refine w_seq ?_ | refine w_ops ?_ | refine st_nil ?_ | refine th_n ?_ | refine bk_n ?_ | refine w_block ?_ | refine w_skip ?_ | refine w_true rfl ?_ | refine mv_c rfl ?_ | refine mv_osl rfl ?_ | refine lss_t rfl rfl (by omega) ?_ | refine add_in rfl rfl (by omega) ?_ | refine load_rp rfl (Nat.le_of_ble_eq_true rfl) rfl ?_ | refine iaS_c rfl rfl (by omega) (by assumption) rfl ?_ | refine w_rn rfl (by decide) rfl rfl (fun _ _ => ?_))
    exact ih (i + 1) (moreL out a 1) _ hn (by omega) (moreL_pos hp (Int.le_refl _)) (by have := moreL_len out a 1; omega) (by rw [moreL_sum]; omega) (by rfl) (by rfl) (by rfl) (by rfl) (by rfl) hx
theorem C_Of (l : List Int) (hlen : l.length < 400000000) : PCallG Try.prog 21 [.c (encIL l)] (.c (encL (ofL l))) [] := by
  refine pcallF Try.func21 c21 rfl ?_
  have h1 : PCallG Try.prog 83 [.c (encIL l)] (.c (.clo 117 (encIL l))) [] := C_Values l
  have h2 : PCallG Try.prog 82 [.c (.clo 117 (encIL l))] (.c (encIL (srt l))) [] := C_Sorted l (by omega)
  have hl : (srt l).length = l.length := (srt_perm l).length_eq
  unfold p21 r21_0 r21_1 r21_2 r21_7
  repeat' (first | refine call1 rfl h1 ?_ | refine call1 rfl h2 ?_ | refine len_sl rfl (List.length_map _) ?_ | refine w_seq ?_ | refine w_ops ?_ | refine st_nil ?_ | refine th_n ?_ | refine w_block ?_ | refine mv_c rfl ?_ | refine own0_ (fun u => ?_))
  refine of_loop (srt l) (by omega) (srt l) 0 [] _ rfl (by omega) (fun q hq => by simp at hq) (by simp) (by simp [sum]) (by rfl) (by rfl) (by rfl) (by rfl) (by rfl) ?_
  intro s' v t3 b3
  rw [← put_same t3, ← box_same b3]
  repeat' (first | refine w_seq ?_ | refine w_ops ?_ | refine st_nil ?_ | refine th_n ?_ | refine bk_x ?_ | refine w_ret ?_ | refine mv_osl rfl ?_)
  exact fin_r (rv_own rfl rfl rfl rv_nil) rfl
end Go.Proofs.Ytcmejdkjfekoeaa
namespace Go.Proofs.Ytcmejdkjfekoeaa
open Go.Pl Go.Bag
set_option maxHeartbeats 4000000
theorem good_loop {C : CallP} {K : Ex → PS → Prop} (l : List Run) (hlen : l.length < 4611686018427387904) : ∀ (rest : List Run) (i : Nat) (sum : Int) (p : Option Int) (s : PS), l.drop i = rest → i ≤ l.length → 0 ≤ sum → sum ≤ 1099511627776 →
    (i = 0 → p = none) → (0 < i → ∃ q, (l.map encR)[((i : Int) - 1).toNat]? = some (encR q) ∧ p = some q.1) →
    s.t 0 = .c (encL l) → s.t 6 = .c (encL l) → s.t 7 = .c (.int .i64 l.length) → s.t 8 = .c (.int .i64 i) → s.t 3 = .c (.int .i64 sum) →
    (goodFrom p sum rest = true → ∀ s', K (.x 0) s') → (goodFrom p sum rest = false → ∀ s', s'.t 2 = .c (.bool false) → K .r s') → wP C (.loop b26_0) s K := by
  intro rest
  induction rest with
  | nil =>
    intro i sum p s hd hi h0 h1 hp0 hp1 t0 t6 t7 t8 t3 hx hr
    refine w_loop ?_
    have := get_end hd hi
    subst this
    rw [← put_same t7, ← put_same t8]
    unfold b26_0 r26_3 r26_4 r26_5 r26_6 r26_7 r26_8
    repeat' (first | refine w_seq ?_ | refine w_ops ?_ | refine st_nil ?_ | refine th_n ?_ | refine th_x ?_ | refine w_exit ?_ | refine w_false rfl ?_ | refine lss_f rfl rfl (by omega) ?_)
    exact hx rfl _
  | cons r rest ih =>
    intro i sum p s hd hi h0 h1 hp0 hp1 t0 t6 t7 t8 t3 hx hr
    refine w_loop ?_
    have he := get_enc hd
    have hl := get_len hd
    have hn := get_next hd
    rw [← put_same t0, ← put_same t6, ← put_same t7, ← put_same t8, ← put_same t3]
    unfold b26_0 r26_3 r26_4 r26_5 r26_6 r26_7 r26_8
    have next : ∀ s'', (p.any (fun a => decide (r.1 ≤ a)) = false) → 1 ≤ r.2 → r.2 ≤ 1099511627776 - sum → s''.t 0 = .c (encL l) → s''.t 6 = .c (encL l) → s''.t 7 = .c (.int .i64 l.length) → s''.t 8 = .c (.int .i64 (i + 1)) → s''.t 3 = .c (.int .i64 (sum + r.2)) → wP C (.loop b26_0) s'' K := by
      intro s'' g1 g2 g3 u0 u6 u7 u8 u3
      have e : goodFrom p sum (r :: rest) = goodFrom (some r.1) (sum + r.2) rest := by
        have : ¬ r.2 < 1 := by omega
        have : ¬ cap - sum < r.2 := by unfold cap; omega
        simp [goodFrom, *]
      rw [e] at hx hr
      refine ih (i + 1) (sum + r.2) (some r.1) s'' hn (by omega) (by omega) (by omega) (by omega) (fun _ => ⟨r, ?_, rfl⟩) u0 u6 u7 u8 u3 hx hr
      have : (((i + 1 : Nat) : Int) - 1).toNat = i := by omega
      rw [this]; exact he
    have bad : ∀ s'', (p.any (fun a => decide (r.1 ≤ a)) = true ∨ r.2 < 1 ∨ 1099511627776 - sum < r.2) → s''.t 2 = .c (.bool false) → K .r s'' := by
      intro s'' g u2
      refine hr ?_ s'' u2
      rcases g with g | g | g
      · simp [goodFrom, g]
      · simp [goodFrom, g]
      · have : cap - sum < r.2 := g
        simp [goodFrom, this]
    rcases Nat.eq_zero_or_pos i with hz | hz
    · have hp := hp0 hz
      repeat' (first | refine w_seq ?_ | refine w_ops ?_ | refine w_opsD0 rfl ?_ | refine st_nil ?_ | refine th_n ?_ | refine th_r ?_ | refine bk_n ?_ | refine bk_r ?_ | refine w_block ?_ | refine w_skip ?_ | refine w_ret ?_ | refine w_true rfl ?_ | refine w_condd rfl (fun hc => ?_) (fun hc => ?_) | refine g_yes rfl ?_ | refine g_no rfl ?_ | refine g_splitd rfl (fun hg => ?_) (fun hg => ?_) | refine mv_c rfl ?_ | refine pick_t rfl rfl ?_ | refine pick_f rfl rfl ?_ | refine lss_t rfl rfl (by omega) ?_ | refine lss_ rfl rfl ?_ | refine gtr_f rfl rfl (by omega) ?_ | refine gtr_ rfl rfl ?_ | refine add_in rfl rfl (by omega) ?_ | refine sub_in rfl rfl (by omega) ?_ | refine alloc_ (fun u => ?_) | refine load_rp rfl (Nat.le_of_ble_eq_true rfl) rfl ?_ | refine load_ptr rfl (by decide) rfl (Nat.le_of_ble_eq_true rfl) rfl ?_ | refine store_ptr rfl rfl (by decide) rfl rfl (Nat.le_of_ble_eq_true rfl) rfl ?_ | refine fad_ptr rfl rfl rfl ?_ | refine iaS_c rfl rfl (by omega) (by assumption) rfl ?_)
      all_goals (first | exact next _ (by simp [hp]) (by omega) (by omega) rfl rfl rfl rfl rfl | exact bad _ (.inr (by omega)) rfl | exact bad _ (.inl (by simp [hp]; omega)) rfl)
    · obtain ⟨q, hq, hp⟩ := hp1 hz
      repeat' (first | refine w_seq ?_ | refine w_ops ?_ | refine w_opsD0 rfl ?_ | refine st_nil ?_ | refine th_n ?_ | refine th_r ?_ | refine bk_n ?_ | refine bk_r ?_ | refine w_block ?_ | refine w_skip ?_ | refine w_ret ?_ | refine w_true rfl ?_ | refine w_condd rfl (fun hc => ?_) (fun hc => ?_) | refine g_yes rfl ?_ | refine g_no rfl ?_ | refine g_splitd rfl (fun hg => ?_) (fun hg => ?_) | refine mv_c rfl ?_ | refine pick_t rfl rfl ?_ | refine pick_f rfl rfl ?_ | refine lss_t rfl rfl (by omega) ?_ | refine lss_ rfl rfl ?_ | refine gtr_t rfl rfl (by omega) ?_ | refine gtr_ rfl rfl ?_ | refine geq_ rfl rfl ?_ | refine add_in rfl rfl (by omega) ?_ | refine sub_in rfl rfl (by omega) ?_ | refine alloc_ (fun u => ?_) | refine load_rp rfl (Nat.le_of_ble_eq_true rfl) rfl ?_ | refine load_ptr rfl (by decide) rfl (Nat.le_of_ble_eq_true rfl) rfl ?_ | refine store_ptr rfl rfl (by decide) rfl rfl (Nat.le_of_ble_eq_true rfl) rfl ?_ | refine fad_ptr rfl rfl rfl ?_ | refine fad_rp rfl (Nat.le_of_ble_eq_true rfl) rfl ?_ | refine iaS_c rfl rfl (by omega) (by assumption) rfl ?_)
      all_goals (first | exact next _ (by simp [hp]; omega) (by omega) (by omega) rfl rfl rfl rfl rfl | exact bad _ (.inr (by omega)) rfl | exact bad _ (.inl (by simp [hp]; omega)) rfl)
theorem C_good (l : List Run) (hlen : l.length < 4611686018427387904) : PCallG Try.prog 26 [.c (encL l)] (.c (.bool (good l))) [] := by
  refine pcallF Try.func26 c26 rfl ?_
  have t0 : (initPS [.c (encL l)]).t 0 = .c (encL l) := rfl
  rw [← put_same t0]
  unfold p26 r26_0 r26_1 r26_2
  repeat' (first | refine w_seq ?_ | refine w_ops ?_ | refine st_nil ?_ | refine th_n ?_ | refine w_block ?_ | refine mv_c rfl ?_ | refine len_sl rfl (by first | assumption | exact List.length_map _) ?_)
  refine good_loop l hlen l 0 0 none _ rfl (by omega) (by omega) (by omega) (fun _ => rfl) (fun h => by omega) rfl rfl (by simp [PS.put, encL]) rfl rfl ?_ ?_
  · intro hg s'
    unfold r26_9
    repeat' (first | refine w_seq ?_ | refine w_ops ?_ | refine st_nil ?_ | refine th_n ?_ | refine bk_x ?_ | refine w_ret ?_ | refine mv_c rfl ?_)
    exact ⟨_, rfl, by unfold good; rw [hg]; rfl⟩
  · intro hg s' h2
    repeat' (first | refine th_r ?_ | refine bk_r ?_)
    exact ⟨[.bool false], by simp [rsVals, rs26, rsVal, h2, PS.close], by unfold good; rw [hg]; rfl⟩
end Go.Proofs.Ytcmejdkjfekoeaa
namespace Go.Proofs.Ytcmejdkjfekoeaa
open Go.Pl Go.Bag
set_option maxHeartbeats 4000000
theorem count_loop {C : CallP} {K : Ex → PS → Prop} (l : List Run) (hlen : l.length < 4611686018427387904) : ∀ (rest : List Run) (i : Nat) (acc : Int) (s : PS), l.drop i = rest → i ≤ l.length → pos rest → 0 ≤ acc → acc + sum rest ≤ 1099511627776 →
    s.t 6 = .c (encL l) → s.t 7 = .c (.int .i64 l.length) → s.t 8 = .c (.int .i64 i) → s.t 3 = .c (.int .i64 acc) →
    (∀ s', s'.t 3 = .c (.int .i64 (acc + sum rest)) → K (.x 0) s') → wP C (.loop b86_0) s K := by
  intro rest
  induction rest with
  | nil =>
    intro i acc s hd hi hp h0 h1 t6 t7 t8 t3 hx
    refine w_loop ?_
    have := get_end hd hi
    subst this
    rw [← put_same t7, ← put_same t8, ← put_same t3]
    unfold b86_0 r86_3 r86_4 r86_5 r86_6
    repeat' (first | refine w_seq ?_ | refine w_ops ?_ | refine st_nil ?_ | refine th_n ?_ | refine th_x ?_ | refine w_exit ?_ | refine w_false rfl ?_ | refine lss_f rfl rfl (by omega) ?_)
    exact hx _ (by simp [sum]; rfl)
  | cons r rest ih =>
    intro i acc s hd hi hp h0 h1 t6 t7 t8 t3 hx
    refine w_loop ?_
    have he := get_enc hd
    have hl := get_len hd
    have hn := get_next hd
    have hr := hp r (by simp)
    have hp' : pos rest := fun q hq => hp q (by simp [hq])
    have hs := sum_nonneg hp'
    have e : acc + sum (r :: rest) = acc + r.2 + sum rest := by simp only [sum]; omega
    rw [e] at h1 hx
    rw [← put_same t6, ← put_same t7, ← put_same t8, ← put_same t3]
    unfold b86_0 r86_3 r86_4 r86_5 r86_6
    repeat' (first | refine w_seq ?_ | refine w_ops ?_ | refine st_nil ?_ | refine th_n ?_ | refine bk_n ?_ | refine w_block ?_ | refine w_skip ?_ | refine w_true rfl ?_ | refine mv_c rfl ?_ | refine lss_t rfl rfl (by omega) ?_ | refine add_in rfl rfl (by omega) ?_ | refine alloc_ (fun u => ?_) | refine load_rp rfl (Nat.le_of_ble_eq_true rfl) rfl ?_ | refine load_ptr rfl (by decide) rfl (Nat.le_of_ble_eq_true rfl) rfl ?_ | refine store_ptr rfl rfl (by decide) rfl rfl (Nat.le_of_ble_eq_true rfl) rfl ?_ | refine fad_ptr rfl rfl rfl ?_ | refine iaS_c rfl rfl (by omega) (by assumption) rfl ?_)
    exact ih (i + 1) (acc + r.2) _ hn (by omega) hp' (by omega) (by omega) rfl rfl rfl rfl hx
theorem C_count (l : List Run) (hlen : l.length < 4611686018427387904) (hp : pos l) (hs : sum l ≤ 1099511627776) : PCallG Try.prog 86 [.c (encL l)] (.c (.int .i64 (sum l))) [] := by
  refine pcallF Try.func86 c86 rfl ?_
  unfold p86 r86_0 r86_1 r86_2 r86_7
  repeat' (first | refine w_seq ?_ | refine w_ops ?_ | refine st_nil ?_ | refine th_n ?_ | refine w_block ?_ | refine mv_c rfl ?_ | refine len_sl rfl (by first | assumption | exact List.length_map _) ?_)
  refine count_loop l hlen l 0 0 _ rfl (by omega) hp (by omega) (by omega) rfl rfl rfl rfl (fun s' h3 => ?_)
  rw [← put_same h3]
  repeat' (first | refine w_seq ?_ | refine w_ops ?_ | refine st_nil ?_ | refine th_n ?_ | refine bk_x ?_ | refine w_ret ?_ | refine mv_c rfl ?_)
  exact fin_r rfl (by simp [one_])
theorem C_Count (l : List Run) (hlen : l.length < 4611686018427387904) : PCallG Try.prog 27 [.c (encL l)] (.c (.int .i64 (if good l then sum l else 0))) [] := by
  refine pcallF Try.func27 c27 rfl ?_
  unfold p27 r27_0 r27_1 r27_2 r27_3
  by_cases hg : good l = true
  · obtain ⟨hp, hs⟩ := good_facts hg
    have hC := C_good l hlen
    rw [hg] at hC
    repeat' (first | refine call1 rfl hC ?_ | refine call1 rfl (C_count l hlen hp hs) ?_ | refine w_seq ?_ | refine w_ops ?_ | refine st_nil ?_ | refine th_n ?_ | refine w_skip ?_ | refine w_ret ?_ | refine w_false rfl ?_ | refine mv_c rfl ?_ | refine not_ rfl ?_)
    exact fin_r rfl (by simp [one_, hg])
  · simp only [Bool.not_eq_true] at hg
    have hC := C_good l hlen
    rw [hg] at hC
    repeat' (first | refine call1 rfl hC ?_ | refine w_seq ?_ | refine w_ops ?_ | refine st_nil ?_ | refine th_n ?_ | refine th_r ?_ | refine w_ret ?_ | refine w_true rfl ?_ | refine mv_c rfl ?_ | refine not_ rfl ?_)
    exact fin_r rfl (by simp [one_, hg])
end Go.Proofs.Ytcmejdkjfekoeaa
namespace Go.Proofs.Ytcmejdkjfekoeaa
open Go.Pl Go.Bag
set_option maxHeartbeats 4000000
theorem part_loop {K : Ex → PS → Prop} (l o : List Run) (hlen : l.length < 4611686018427387904) (v4 v5 : Nat) (c4 : List CV) : ∀ (rest : List Run) (i : Nat) (z : Int) (s : PS), l.drop i = rest → i ≤ l.length → pos rest → ranged rest →
    -(9223372036854775808 * (2199023255552 - sum rest)) ≤ z → z ≤ 9223372036854775808 * (2199023255552 - sum rest) → sum rest ≤ 2199023255552 →
    s.t 10 = .c (encL l) → s.t 11 = .c (.int .i64 l.length) → s.t 12 = .c (.int .i64 i) → s.t 1 = .c (encL o) → s.t 4 = .ptr 4 v4 0 → s.bx 4 = ⟨v4, .var c4⟩ → s.t 5 = .ptr 5 v5 0 → s.bx 5 = ⟨v5, .var (cellsW z)⟩ →
    (∀ s', s'.t 1 = .c (encL o) → s'.t 4 = .ptr 4 v4 0 → s'.bx 4 = ⟨v4, .var c4⟩ → s'.t 5 = .ptr 5 v5 0 → s'.bx 5 = ⟨v5, .var (cellsW (z + wsum rest))⟩ → K (.x 0) s') → wP (PCallG Try.prog) (.loop b88_0) s K := by
  intro rest
  induction rest with
  | nil =>
    intro i z s hd hi hp hr h0 h1 h2 t10 t11 t12 t1 t4 b4 t5 b5 hx
    refine w_loop ?_
    have := get_end hd hi
    subst this
    rw [← put_same t11, ← put_same t12, ← put_same t1, ← put_same t4, ← put_same t5, ← box_same b4, ← box_same b5]
    unfold b88_0 r88_3 r88_4 r88_5 r88_6
    repeat' (first | refine w_seq ?_ | refine w_ops ?_ | refine st_nil ?_ | refine th_n ?_ | refine th_x ?_ | refine w_exit ?_ | refine w_false rfl ?_ | refine lss_f rfl rfl (by omega) ?_)
    exact hx _ rfl rfl rfl rfl (by simp only [wsum, Int.add_zero]; rfl)
  | cons r rest ih =>
    intro i z s hd hi hp hr h0 h1 h2 t10 t11 t12 t1 t4 b4 t5 b5 hx
    refine w_loop ?_
    have he := get_enc hd
    have hl := get_len hd
    have hn := get_next hd
    have hr1 := hp r (by simp)
    have hp' : pos rest := fun q hq => hp q (by simp [hq])
    have hr' : ranged rest := fun q hq => hr q (by simp [hq])
    have hs := sum_nonneg hp'
    have hrr := hr r (by simp)
    have hm := mul_bound hrr.1 (show 0 ≤ r.2 by omega)
    have e : z + wsum (r :: rest) = z + r.1 * r.2 + wsum rest := by simp only [wsum]; omega
    have es : sum (r :: rest) = r.2 + sum rest := rfl
    rw [e] at hx
    rw [es] at h0 h1 h2
    have hP := C_Plus z r.1 r.2 (by constructor <;> omega) hrr.1 hrr.2 (by constructor <;> omega)
    rw [← put_same t10, ← put_same t11, ← put_same t12, ← put_same t1, ← put_same t4, ← put_same t5, ← box_same b4, ← box_same b5]
    unfold b88_0 r88_3 r88_4 r88_5 r88_6
    repeat' (first | refine call3 rfl rfl rfl hP ?_ | refine w_seq ?_ | refine w_ops ?_ | refine st_nil ?_ | refine th_n ?_ | refine bk_n ?_ | refine w_block ?_ | refine w_skip ?_ | refine w_true rfl ?_ | refine mv_c rfl ?_ | refine lss_t rfl rfl (by omega) ?_ | refine add_in rfl rfl (by omega) ?_ | refine alloc_ (fun u => ?_) | refine load_rp rfl (Nat.le_of_ble_eq_true rfl) rfl ?_ | refine load_ptr rfl (by decide) rfl (Nat.le_of_ble_eq_true rfl) rfl ?_ | refine store_ptr rfl rfl (by decide) rfl rfl (Nat.le_of_ble_eq_true rfl) rfl ?_ | refine fad_ptr rfl rfl rfl ?_ | refine iaS_c rfl rfl (by omega) (by assumption) rfl ?_)
    exact ih (i + 1) (z + r.1 * r.2) _ hn (by omega) hp' hr' (by omega) (by omega) (by omega) rfl rfl rfl rfl rfl rfl rfl rfl hx
theorem part_loop2 {K : Ex → PS → Prop} (l : List Run) (hlen : l.length < 4611686018427387904) (v4 v5 : Nat) (c4 : List CV) : ∀ (rest : List Run) (i : Nat) (z : Int) (s : PS), l.drop i = rest → i ≤ l.length → pos rest → ranged rest →
    -(9223372036854775808 * (4398046511104 - sum rest)) ≤ z → z ≤ 9223372036854775808 * (4398046511104 - sum rest) → sum rest ≤ 4398046511104 →
    s.t 23 = .c (encL l) → s.t 24 = .c (.int .i64 l.length) → s.t 25 = .c (.int .i64 i) → s.t 4 = .ptr 4 v4 0 → s.bx 4 = ⟨v4, .var c4⟩ → s.t 5 = .ptr 5 v5 0 → s.bx 5 = ⟨v5, .var (cellsW z)⟩ →
    (∀ s', s'.t 4 = .ptr 4 v4 0 → s'.bx 4 = ⟨v4, .var c4⟩ → s'.t 5 = .ptr 5 v5 0 → s'.bx 5 = ⟨v5, .var (cellsW (z - wsum rest))⟩ → K (.x 2) s') → wP (PCallG Try.prog) (.loop b88_1) s K := by
  intro rest
  induction rest with
  | nil =>
    intro i z s hd hi hp hr h0 h1 h2 t10 t11 t12 t4 b4 t5 b5 hx
    refine w_loop ?_
    have := get_end hd hi
    subst this
    rw [← put_same t11, ← put_same t12, ← put_same t4, ← put_same t5, ← box_same b4, ← box_same b5]
    unfold b88_1 r88_8 r88_9 r88_10 r88_11
    repeat' (first | refine w_seq ?_ | refine w_ops ?_ | refine st_nil ?_ | refine th_n ?_ | refine th_x ?_ | refine w_exit ?_ | refine w_false rfl ?_ | refine lss_f rfl rfl (by omega) ?_)
    exact hx _ rfl rfl rfl (by simp only [wsum, Int.sub_zero]; rfl)
  | cons r rest ih =>
    intro i z s hd hi hp hr h0 h1 h2 t10 t11 t12 t4 b4 t5 b5 hx
    refine w_loop ?_
    have he := get_enc hd
    have hl := get_len hd
    have hn := get_next hd
    have hr1 := hp r (by simp)
    have hp' : pos rest := fun q hq => hp q (by simp [hq])
    have hr' : ranged rest := fun q hq => hr q (by simp [hq])
    have hs := sum_nonneg hp'
    have hrr := hr r (by simp)
    have hm := mul_bound hrr.1 (show 0 ≤ r.2 by omega)
    have e : z - wsum (r :: rest) = z + r.1 * -r.2 - wsum rest := by simp only [wsum, Int.mul_neg]; omega
    have es : sum (r :: rest) = r.2 + sum rest := rfl
    rw [e] at hx
    rw [es] at h0 h1 h2
    have hmn : r.1 * -r.2 = -(r.1 * r.2) := Int.mul_neg _ _
    have hP := C_Plus z r.1 (-r.2) (by constructor <;> omega) hrr.1 (by constructor <;> omega) (by constructor <;> omega)
    rw [← put_same t10, ← put_same t11, ← put_same t12, ← put_same t4, ← put_same t5, ← box_same b4, ← box_same b5]
    unfold b88_1 r88_8 r88_9 r88_10 r88_11
    repeat' (first | refine call3 rfl rfl rfl hP ?_ | refine w_seq ?_ | refine w_ops ?_ | refine st_nil ?_ | refine th_n ?_ | refine bk_n ?_ | refine w_block ?_ | refine w_skip ?_ | refine w_true rfl ?_ | refine mv_c rfl ?_ | refine lss_t rfl rfl (by omega) ?_ | refine neg_in rfl (by omega) ?_ | refine add_in rfl rfl (by omega) ?_ | refine alloc_ (fun u => ?_) | refine load_rp rfl (Nat.le_of_ble_eq_true rfl) rfl ?_ | refine load_ptr rfl (by decide) rfl (Nat.le_of_ble_eq_true rfl) rfl ?_ | refine store_ptr rfl rfl (by decide) rfl rfl (Nat.le_of_ble_eq_true rfl) rfl ?_ | refine fad_ptr rfl rfl rfl ?_ | refine iaS_c rfl rfl (by omega) (by assumption) rfl ?_)
    exact ih (i + 1) (z + r.1 * -r.2) _ hn (by omega) hp' hr' (by omega) (by omega) (by omega) rfl rfl rfl rfl rfl rfl rfl hx
theorem C_Part (l o : List Run) (hlen : l.length < 4611686018427387904) (holen : o.length < 4611686018427387904) (hp : pos l) (hr : ranged l) (hs : sum l ≤ 1099511627776) (hpo : pos o) (hro : ranged o) (hso : sum o ≤ 1099511627776) :
    PCallG Try.prog 88 [.c (encL l), .c (encL o)] (.c (encW (wsum l - wsum o))) [] := by
  have hn := sum_nonneg hp
  have hno := sum_nonneg hpo
  have hb := wsum_bound hp hr
  refine pcallF Try.func88 c88 rfl ?_
  unfold p88 r88_0 r88_1 r88_2 r88_7 r88_12
  repeat' (first | refine w_seq ?_ | refine w_ops ?_ | refine st_nil ?_ | refine th_n ?_ | refine w_block ?_ | refine mv_c rfl ?_ | refine alloc_ (fun u => ?_) | refine len_sl rfl (by first | assumption | exact List.length_map _) ?_)
  refine part_loop l o hlen _ _ _ l 0 0 _ rfl (by omega) hp hr (by omega) (by omega) (by omega) rfl rfl rfl rfl rfl rfl rfl rfl ?_
  intro s' t1 t4 b4 t5 b5
  rw [← put_same t1, ← put_same t4, ← put_same t5, ← box_same b4, ← box_same b5]
  repeat' (first | refine w_seq ?_ | refine w_ops ?_ | refine st_nil ?_ | refine th_n ?_ | refine bk_x ?_ | refine w_block ?_ | refine mv_c rfl ?_ | refine len_sl rfl (by first | assumption | exact List.length_map _) ?_)
  refine part_loop2 o holen _ _ _ o 0 (0 + wsum l) _ rfl (by omega) hpo hro (by omega) (by omega) (by omega) rfl rfl rfl rfl rfl rfl rfl ?_
  intro s' t4 b4 t5 b5
  rw [← put_same t4, ← put_same t5, ← box_same b4, ← box_same b5]
  repeat' (first | refine w_seq ?_ | refine w_ops ?_ | refine st_nil ?_ | refine th_n ?_ | refine bk_x ?_ | refine w_ret ?_ | refine load_ptr rfl (by decide) rfl (Nat.le_of_ble_eq_true rfl) rfl ?_ | refine store_ptr rfl rfl (by decide) rfl rfl (Nat.le_of_ble_eq_true rfl) rfl ?_)
  refine fin_r (rv_cell rfl rfl rfl rfl rv_nil) ?_
  rw [Int.zero_add]
  rfl
end Go.Proofs.Ytcmejdkjfekoeaa
namespace Go.Proofs.Ytcmejdkjfekoeaa
open Go.Pl Go.Bag
set_option maxHeartbeats 4000000
def sumB (l : List Run) : Int × Bool := if good l = true ∧ I64 (wsum l) then (wsum l, true) else (0, false)
def tupI (p : Int × Bool) : CV := .tup [.int .i64 p.1, .bool p.2]
theorem C_Sum (l : List Run) (hlen : l.length < 4611686018427387904) (hr : ranged l) : PCallG Try.prog 31 [.c (encL l)] (.c (tupI (sumB l))) [] := by
  refine pcallF Try.func31 c31 rfl ?_
  unfold p31 r31_0 r31_1 r31_2 r31_3
  have hC := C_good l hlen
  cases hg : good l with
  | false =>
    rw [hg] at hC
    repeat' (first | refine call1 rfl hC ?_ | refine w_seq ?_ | refine w_ops ?_ | refine st_nil ?_ | refine th_n ?_ | refine th_r ?_ | refine w_ret ?_ | refine w_true rfl ?_ | refine mv_c rfl ?_ | refine not_ rfl ?_)
    exact fin_r rfl (by simp [one_, tupI, sumB, hg])
  | true =>
    rw [hg] at hC
    obtain ⟨hp, hs⟩ := good_facts hg
    have hs' : sum l ≤ 1099511627776 := hs
    have hn := sum_nonneg hp
    have hb := wsum_bound hp hr
    have hP := C_Part l [] hlen (by simp) hp hr hs' (fun q hq => by simp at hq) (fun q hq => by simp at hq) (by simp [sum])
    have e : wsum l - wsum [] = wsum l := by simp [wsum]
    rw [e] at hP
    have hI := C_Int (wsum l) (by constructor <;> omega)
    by_cases h : I64 (wsum l)
    · rw [if_pos h] at hI
      repeat' (first | refine call1 rfl hC ?_ | refine call2 rfl rfl hP ?_ | refine call1 rfl hI ?_ | refine w_seq ?_ | refine w_ops ?_ | refine st_nil ?_ | refine th_n ?_ | refine w_skip ?_ | refine w_ret ?_ | refine w_false rfl ?_ | refine mv_c rfl ?_ | refine not_ rfl ?_ | refine ext_ rfl rfl ?_)
      exact fin_r rfl (by simp [one_, tupI, sumB, hg, h])
    · rw [if_neg h] at hI
      repeat' (first | refine call1 rfl hC ?_ | refine call2 rfl rfl hP ?_ | refine call1 rfl hI ?_ | refine w_seq ?_ | refine w_ops ?_ | refine st_nil ?_ | refine th_n ?_ | refine w_skip ?_ | refine w_ret ?_ | refine w_false rfl ?_ | refine mv_c rfl ?_ | refine not_ rfl ?_ | refine ext_ rfl rfl ?_)
      exact fin_r rfl (by simp [one_, tupI, sumB, h])
theorem equal_loop {C : CallP} {K : Ex → PS → Prop} (l k : List Run) (hlen : l.length < 4611686018427387904) (hk : k.length = l.length) : ∀ (rest rest' : List Run) (i : Nat) (s : PS), l.drop i = rest → k.drop i = rest' → i ≤ l.length →
    s.t 0 = .c (encL l) → s.t 1 = .c (encL k) → s.t 12 = .c (.int .i64 l.length) → s.t 13 = .c (.int .i64 i) →
    (rest = rest' → ∀ s', K (.x 0) s') → (rest ≠ rest' → ∀ s', s'.t 4 = .c (.bool false) → K .r s') → wP C (.loop b87_0) s K := by
  intro rest
  induction rest with
  | nil =>
    intro rest' i s hd hd' hi t0 t1 t12 t13 hx hr
    refine w_loop ?_
    have := get_end hd hi
    subst this
    have h' : rest' = [] := by rw [← hd', ← hk]; simp
    subst h'
    rw [← put_same t12, ← put_same t13]
    unfold b87_0 r87_4 r87_5 r87_6 r87_7 r87_8
    repeat' (first | refine w_seq ?_ | refine w_ops ?_ | refine st_nil ?_ | refine th_n ?_ | refine th_x ?_ | refine w_exit ?_ | refine w_false rfl ?_ | refine lss_f rfl rfl (by omega) ?_)
    exact hx rfl _
  | cons r rest ih =>
    intro rest' i s hd hd' hi t0 t1 t12 t13 hx hr
    refine w_loop ?_
    have he := get_enc hd
    have hl := get_len hd
    have hn := get_next hd
    match rest', hd' with
    | [], hd' => exact absurd (List.drop_eq_nil_iff.mp hd') (by omega)
    | q :: rest', hd' =>
      have he' := get_enc hd'
      have hn' := get_next hd'
      rw [← put_same t0, ← put_same t1, ← put_same t12, ← put_same t13]
      unfold b87_0 r87_4 r87_5 r87_6 r87_7 r87_8
      have hq : eqC true [.i, .i] (.agg (encR r)) (.agg (encR q)) = some (decide (r = q)) := by
        obtain ⟨r1, r2⟩ := r
        obtain ⟨q1, q2⟩ := q
        by_cases h1 : r1 = q1 <;> by_cases h2 : r2 = q2 <;> simp [eqC, shEq, encR, h1, h2]
      by_cases hrq : r = q
      · rw [decide_eq_true hrq] at hq
        repeat' (first | refine eqs_f rfl rfl hq ?_ | refine w_seq ?_ | refine w_ops ?_ | refine w_opsD0 rfl ?_ | refine st_nil ?_ | refine th_n ?_ | refine bk_n ?_ | refine w_block ?_ | refine w_skip ?_ | refine w_true rfl ?_ | refine w_false rfl ?_ | refine mv_c rfl ?_ | refine lss_t rfl rfl (by omega) ?_ | refine add_in rfl rfl (by omega) ?_ | refine load_rp rfl (Nat.le_of_ble_eq_true rfl) rfl ?_ | refine iaS_c rfl rfl (by omega) (by assumption) rfl ?_)
        exact ih rest' (i + 1) _ hn hn' (by omega) (by rfl) (by rfl) (by rfl) (by rfl) (fun h => hx (by rw [hrq, h])) (fun h => hr (fun e => h (by injection e)))
      · rw [decide_eq_false hrq] at hq
        repeat' (first | refine eqs_f rfl rfl hq ?_ | refine w_seq ?_ | refine w_ops ?_ | refine w_opsD0 rfl ?_ | refine st_nil ?_ | refine th_n ?_ | refine th_r ?_ | refine bk_r ?_ | refine w_block ?_ | refine w_skip ?_ | refine w_ret ?_ | refine w_true rfl ?_ | refine mv_c rfl ?_ | refine lss_t rfl rfl (by omega) ?_ | refine load_rp rfl (Nat.le_of_ble_eq_true rfl) rfl ?_ | refine iaS_c rfl rfl (by omega) (by assumption) rfl ?_)
        exact hr (fun e => hrq (by injection e)) _ rfl
theorem C_Equal (l k : List Run) (hlen : l.length < 4611686018427387904) (hklen : k.length < 4611686018427387904) : PCallG Try.prog 87 [.c (encL l), .c (encL k)] (.c (.bool (decide (l = k)))) [] := by
  refine pcallF Try.func87 c87 rfl ?_
  unfold p87 r87_0 r87_1 r87_2 r87_3 r87_9
  by_cases hk : k.length = l.length
  · repeat' (first | refine w_seq ?_ | refine w_ops ?_ | refine st_nil ?_ | refine th_n ?_ | refine w_block ?_ | refine w_skip ?_ | refine w_false rfl ?_ | refine mv_c rfl ?_ | refine neq_f rfl rfl (by omega) ?_ | refine len_sl rfl (by first | assumption | exact List.length_map _) ?_)
    refine equal_loop l k hlen hk l k 0 _ rfl rfl (by omega) (by rfl) (by rfl) (by rfl) (by rfl) (fun h s' => ?_) (fun h s' h4 => ?_)
    · repeat' (first | refine w_seq ?_ | refine w_ops ?_ | refine st_nil ?_ | refine th_n ?_ | refine bk_x ?_ | refine w_ret ?_ | refine mv_c rfl ?_)
      exact fin_r rfl (by simp [one_, h])
    · rw [← put_same h4]
      repeat' (first | refine th_r ?_ | refine bk_r ?_)
      exact fin_r rfl (by simp [one_, h])
  · repeat' (first | refine w_seq ?_ | refine w_ops ?_ | refine st_nil ?_ | refine th_n ?_ | refine th_r ?_ | refine w_ret ?_ | refine w_true rfl ?_ | refine mv_c rfl ?_ | refine neq_t rfl rfl (by omega) ?_ | refine len_sl rfl (by first | assumption | exact List.length_map _) ?_)
    refine fin_r rfl ?_
    have : l ≠ k := fun e => hk (by rw [e])
    simp [one_, this]
theorem C_Same (l k : List Run) (hlen : l.length < 4611686018427387904) (hklen : k.length < 4611686018427387904) : PCallG Try.prog 29 [.c (encL l), .c (encL k)] (.c (.bool (decide (l = k)))) [] := by
  refine pcallF Try.func29 c29 rfl ?_
  unfold p29 r29_0 r29_1
  repeat' (first | refine call2 rfl rfl (C_Equal l k hlen hklen) ?_ | refine w_seq ?_ | refine w_ops ?_ | refine st_nil ?_ | refine th_n ?_ | refine w_ret ?_ | refine mv_c rfl ?_)
  exact fin_r rfl (by simp [one_])
end Go.Proofs.Ytcmejdkjfekoeaa

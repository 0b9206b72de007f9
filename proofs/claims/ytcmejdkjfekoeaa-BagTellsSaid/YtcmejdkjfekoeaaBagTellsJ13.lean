/- Part 13 of the proof of BagTells: lemmas. -/
import Derived.Test.YtcmejdkjfekoeaaBagTellsJ11
import Derived.Test.YtcmejdkjfekoeaaBagTellsJ7
import Derived.Test.YtcmejdkjfekoeaaBagTellsJ10
import Derived.Test.YtcmejdkjfekoeaaBagTellsJ12
namespace Go.Proofs.Ytcmejdkjfekoeaa
open Go.Pl Go.Bag
set_option maxHeartbeats 8000000
theorem good_one {v n : Int} (h : 1 ≤ n ∧ n ≤ 1099511627776) : good [(v, n)] = true :=
  good_iff.mpr ⟨by simp [asc], fun q hq => by simp at hq; subst hq; exact h.1, by simp [sum, cap]; exact h.2⟩
theorem C_BagMany (v w n : Int) (hn : 0 ≤ n ∧ n ≤ 18446744073709551615) : PCallG Try.prog 4 [.c (.int .i64 v), .c (.int .i64 w), .c (.int .u64 n)] (.c (.bool true)) [] := by
  refine pcallF Try.func4 c4 rfl ?_
  have hw := C_wakes8
  have h0 : cap = 1099511627776 := rfl
  have hk1 : 0 ≤ n % 1099511627776 := by omega
  have hk2 : n % 1099511627776 < 1099511627776 := by omega
  generalize hk : n % 1099511627776 = k at hk1 hk2
  have g1 : good [(v, 1099511627776 - k)] = true := good_one (by omega)
  have c1 : PCallG Try.prog 26 [.c (encL [(v, 1099511627776 - k)])] (.c (.bool true)) [] := by
    have := C_good [(v, 1099511627776 - k)] (by simp)
    rw [g1] at this; exact this
  have c2 : PCallG Try.prog 26 [.c (encL [(v, 1099511627777)])] (.c (.bool false)) [] := by
    have := C_good [(v, 1099511627777)] (by simp)
    have e : good [(v, 1099511627777)] = false := by simp [good, goodFrom, cap]
    rw [e] at this; exact this
  have c3 : PCallG Try.prog 25 [.c (encL [(v, 1099511627776 - k)]), .c (encL [(w, k + 1)])] (.c (.tup [encL [], .bool false])) [] := by
    have := C_Join [(v, 1099511627776 - k)] [(w, k + 1)] (by simp) (by simp)
    rw [join_no (by simp [sum, cap]; omega)] at this; exact this
  have c4 : ∀ b, (k = 0 → b = []) → (k ≠ 0 → b = [(w, k)]) → ∃ o, PCallG Try.prog 25 [.c (encL [(v, 1099511627776 - k)]), .c (encL b)] (.c (.tup [encL o, .bool true])) [] ∧ PCallG Try.prog 27 [.c (encL o)] (.c (.int .i64 1099511627776)) [] := by
    intro b b0 b1
    have gb : good b = true ∧ sum b = k ∧ b.length ≤ 1 := by
      by_cases hk0 : k = 0
      · rw [b0 hk0]; exact ⟨rfl, by simp [sum, hk0], by simp⟩
      · rw [b1 hk0]; exact ⟨good_one (by omega), by simp [sum], by simp⟩
    obtain ⟨o, h1, h2, h3, h4⟩ := join_ok g1 gb.1 (by simp only [sum]; omega)
    have hj := C_Join [(v, 1099511627776 - k)] b (by simp) (by omega)
    have ho : o.length < 1000 := by
      have : o = merge [] [(v, 1099511627776 - k)] b := by
        have e : (join [(v, 1099511627776 - k)] b).1 = o := by rw [h1]
        rw [← e]; unfold join
        rw [if_pos ⟨g1, gb.1, by simp only [sum]; omega⟩]
      rw [this]
      have hl : ∀ (m : Nat) (out a b : List Run), a.length + b.length = m → (merge out a b).length ≤ out.length + m := by
        intro m
        induction m with
        | zero => intro out a b hm; obtain rfl : a = [] := List.eq_nil_of_length_eq_zero (by omega); obtain rfl : b = [] := List.eq_nil_of_length_eq_zero (by omega); simp [merge]
        | succ m ih =>
          intro out a b hm
          match a, b, hm with
          | [], s :: b, hm => rw [show merge out [] (s :: b) = merge (moreL out s.1 s.2) [] b by simp only [merge]]; have := ih (moreL out s.1 s.2) [] b (by simpa using hm); have := moreL_len out s.1 s.2; omega
          | r :: a, [], hm => rw [show merge out (r :: a) [] = merge (moreL out r.1 r.2) a [] by simp only [merge]]; have := ih (moreL out r.1 r.2) a [] (by simpa using hm); have := moreL_len out r.1 r.2; omega
          | r :: a, s :: b, hm =>
            rw [merge]
            split
            · have := ih (moreL out s.1 s.2) (r :: a) b (by simp at hm ⊢; omega); have := moreL_len out s.1 s.2; omega
            · have := ih (moreL out r.1 r.2) a (s :: b) (by simp at hm ⊢; omega); have := moreL_len out r.1 r.2; omega
      have := hl _ [] [(v, 1099511627776 - k)] b rfl
      simp at this; omega
    have hc := C_Count o (by omega)
    rw [h2] at hc
    refine ⟨o, by rw [h1] at hj; exact hj, ?_⟩
    have e : sum o = 1099511627776 := by rw [h3, gb.2.1]; simp only [sum]; omega
    rw [e] at hc; exact hc
  unfold p4 r4_0 r4_1 r4_2 r4_3 r4_4 r4_5 r4_6 r4_7 r4_8 r4_9
  by_cases hk0 : k = 0
  · obtain ⟨o, j1, j2⟩ := c4 [] (fun _ => rfl) (fun h => absurd hk0 h)
    repeat' (first
      | refine rem_nn rfl rfl (by omega) (by omega) ?_
      | refine w_seq ?_
      | refine w_ops ?_
      | refine st_nil ?_
      | refine th_n ?_
      | refine w_true rfl ?_
      | refine mv_c rfl ?_
      | refine eql_t rfl rfl (by omega) ?_
      | refine conv_in rfl (wrap64_in (by omega)) ?_
      | refine add_in rfl rfl (by omega) ?_
      | refine sub_in rfl rfl (by omega) ?_
      | refine build_ rfl rfl ?_
      | refine bsl_ rfl rfl ?_)
    rw [hk]
    repeat' (first
      | refine call2 rfl rfl j1 ?_
      | refine call2 rfl rfl c3 ?_
      | refine call1 rfl c1 ?_
      | refine call1 rfl c2 ?_
      | refine call1 rfl j2 ?_
      | refine call0 hw ?_
      | refine w_seq ?_
      | refine w_ops ?_
      | refine st_nil ?_
      | refine th_n ?_
      | refine w_ret ?_
      | refine g_yes rfl ?_
      | refine mv_c rfl ?_
      | refine pick_t rfl rfl ?_
      | refine eql_t rfl rfl (by omega) ?_
      | refine not_ rfl ?_
      | refine build_ rfl rfl ?_
      | refine bsl_ rfl rfl ?_
      | refine ext_ rfl rfl ?_)
    exact fin_r rfl rfl
  · obtain ⟨o, j1, j2⟩ := c4 [(w, k)] (fun h => absurd h hk0) (fun _ => rfl)
    repeat' (first
      | refine rem_nn rfl rfl (by omega) (by omega) ?_
      | refine w_seq ?_
      | refine w_ops ?_
      | refine st_nil ?_
      | refine th_n ?_
      | refine w_skip ?_
      | refine w_false rfl ?_
      | refine mv_c rfl ?_
      | refine eql_f rfl rfl (by omega) ?_
      | refine conv_in rfl (wrap64_in (by omega)) ?_
      | refine add_in rfl rfl (by omega) ?_
      | refine sub_in rfl rfl (by omega) ?_
      | refine build_ rfl rfl ?_
      | refine bsl_ rfl rfl ?_)
    rw [hk]
    repeat' (first
      | refine call2 rfl rfl j1 ?_
      | refine call2 rfl rfl c3 ?_
      | refine call1 rfl c1 ?_
      | refine call1 rfl c2 ?_
      | refine call1 rfl j2 ?_
      | refine call0 hw ?_
      | refine w_seq ?_
      | refine w_ops ?_
      | refine st_nil ?_
      | refine th_n ?_
      | refine w_ret ?_
      | refine g_yes rfl ?_
      | refine mv_c rfl ?_
      | refine pick_t rfl rfl ?_
      | refine eql_t rfl rfl (by omega) ?_
      | refine not_ rfl ?_
      | refine build_ rfl rfl ?_
      | refine bsl_ rfl rfl ?_
      | refine ext_ rfl rfl ?_)
    exact fin_r rfl rfl
theorem ok_i64 {c : CV} (h : LF.Ok (.int .i64) c) : ∃ a, c = .int .i64 a ∧ I64 a := by
  cases h with
  | int _ a hw => exact ⟨a, rfl, by simpa [Lit.wf, IntKind.min, IntKind.max, IntKind.signed, IntKind.bits, I64] using hw⟩
theorem ok_u64 {c : CV} (h : LF.Ok (.int .u64) c) : ∃ a, c = .int .u64 a ∧ 0 ≤ a ∧ a ≤ 18446744073709551615 := by
  cases h with
  | int _ a hw => exact ⟨a, rfl, by simpa [Lit.wf, IntKind.min, IntKind.max, IntKind.signed, IntKind.bits] using hw⟩
theorem L_BagMany (c0 : CV) (h0 : LF.Ok (.int .i64) c0) (c1 : CV) (h1 : LF.Ok (.int .i64) c1) (c2 : CV) (h2 : LF.Ok (.int .u64) c2) : PCallG Try.prog 4 [.c c0, .c c1, .c c2] (.c (.bool true)) [] := by
  obtain ⟨v, rfl, _⟩ := ok_i64 h0
  obtain ⟨w, rfl, _⟩ := ok_i64 h1
  obtain ⟨n, rfl, hn⟩ := ok_u64 h2
  exact C_BagMany v w n hn
end Go.Proofs.Ytcmejdkjfekoeaa
namespace Go.Proofs.Ytcmejdkjfekoeaa
open Go.Pl Go.Bag
set_option maxHeartbeats 8000000
theorem C_BagBack (a b : List Int) (ha : a.length ≤ 9223372036854775807) (hb : b.length ≤ 9223372036854775807) : PCallG Try.prog 6 [.c (encIL a), .c (encIL b)] (.c (.bool true)) [] := by
  refine pcallF Try.func6 c6 rfl ?_
  have hw := C_wakes8
  unfold p6 r6_0 r6_1 r6_2 r6_3 r6_4 r6_5 r6_6 r6_7 r6_8
  by_cases h1 : a.length ≤ 100
  · by_cases h2 : b.length ≤ 100
    · have la := (ofL_facts a).2.2.2.2
      have lb := (ofL_facts b).2.2.2.2
      have lab := (ofL_facts (a ++ b)).2.2.2.2
      rw [List.length_append] at lab
      have c1 := C_Of a (by omega)
      have c2 := C_Of b (by omega)
      have c3 := C_Join (ofL a) (ofL b) (by omega) (by omega)
      have c4 := C_Join (ofL b) (ofL a) (by omega) (by omega)
      have c5 := C_Minus (ofL (a ++ b)) (ofL b) (by omega) (by omega)
      have c6 := C_Minus (ofL a) (ofL a) (by omega) (by omega)
      have c7 := C_Of (a ++ b) (by simp; omega)
      rw [join_ofL (by omega) (by omega)] at c3 c4
      rw [ofL_perm (List.perm_append_comm (l₁ := b) (l₂ := a))] at c4
      rw [minus_ofL2 (by omega) (by omega)] at c5
      rw [minus_self (by omega)] at c6
      have d1 : PCallG Try.prog 29 [.c (encL (ofL (a ++ b))), .c (encL (ofL (a ++ b)))] (.c (.bool true)) [] := by
        have := C_Same (ofL (a ++ b)) (ofL (a ++ b)) (by omega) (by omega)
        rw [decide_eq_true rfl] at this; exact this
      have d2 : PCallG Try.prog 29 [.c (encL (ofL a)), .c (encL (ofL a))] (.c (.bool true)) [] := by
        have := C_Same (ofL a) (ofL a) (by omega) (by omega)
        rw [decide_eq_true rfl] at this; exact this
      have c7' : PCallG Try.prog 21 [.c (.sl (a.map encI ++ b.map encI))] (.c (encL (ofL (a ++ b)))) [] := by rw [← List.map_append]; exact c7
      have w1 : ∀ e ∈ a.map encI, e.length = 1 := fun e he => by obtain ⟨x, _, rfl⟩ := List.mem_map.mp he; rfl
      have w2 : ∀ e ∈ b.map encI, e.length = 1 := fun e he => by obtain ⟨x, _, rfl⟩ := List.mem_map.mp he; rfl
      have z1 : ([] : List (List CV)).length + (a.map encI).length ≤ maxGrow := by simp [maxGrow]; omega
      have z2 : (a.map encI).length + (b.map encI).length ≤ maxGrow := by simp [maxGrow]; omega
      repeat' (first
        | refine len_sl rfl (List.length_map _) ?_
        | refine call1 rfl c1 ?_
        | refine call1 rfl c2 ?_
        | refine call2 rfl rfl c3 ?_
        | refine call2 rfl rfl c4 ?_
        | refine call2 rfl rfl c5 ?_
        | refine call2 rfl rfl c6 ?_
        | refine call1 rfl c7' ?_
        | refine call2 rfl rfl d1 ?_
        | refine call2 rfl rfl d2 ?_
        | refine app_own rfl rfl rfl rfl z1 w1 (List.nil_append _) rfl (fun _ _ => ?_)
        | refine app_cl rfl rfl rfl rfl z2 w2 rfl (fun _ => ?_)
        | refine call0 hw ?_
        | refine w_seq ?_
        | refine w_ops ?_
        | refine st_nil ?_
        | refine th_n ?_
        | refine w_skip ?_
        | refine w_ret ?_
        | refine w_false rfl ?_
        | refine g_yes rfl ?_
        | refine mv_c rfl ?_
        | refine pick_t rfl rfl ?_
        | refine pick_f rfl rfl ?_
        | refine gtr_f rfl rfl (by omega) ?_
        | refine eqd_ rfl rfl ?_
        | refine bsl_own rfl rfl rfl (fun u => ?_)
        | refine ext_ rfl rfl ?_)
      exact fin_r rfl rfl
    · repeat' (first
      | refine len_sl rfl (List.length_map _) ?_
      | refine call0 hw ?_
      | refine w_seq ?_
      | refine w_ops ?_
      | refine st_nil ?_
      | refine th_n ?_
      | refine th_r ?_
      | refine w_ret ?_
      | refine w_true rfl ?_
      | refine g_yes rfl ?_
      | refine mv_c rfl ?_
      | refine pick_f rfl rfl ?_
      | refine gtr_t rfl rfl (by omega) ?_
      | refine gtr_f rfl rfl (by omega) ?_)
      exact fin_r rfl rfl
  · repeat' (first
    | refine len_sl rfl (List.length_map _) ?_
    | refine call0 hw ?_
    | refine w_seq ?_
    | refine w_ops ?_
    | refine st_nil ?_
    | refine th_n ?_
    | refine th_r ?_
    | refine w_ret ?_
    | refine w_true rfl ?_
    | refine g_no rfl ?_
    | refine mv_c rfl ?_
    | refine pick_t rfl rfl ?_
    | refine gtr_t rfl rfl (by omega) ?_)
    exact fin_r rfl rfl
theorem L_BagBack (c0 : CV) (h0 : LF.Ok (.sl [.int .i64]) c0) (c1 : CV) (h1 : LF.Ok (.sl [.int .i64]) c1) : PCallG Try.prog 6 [.c c0, .c c1] (.c (.bool true)) [] := by
  obtain ⟨a, rfl, _, ha⟩ := ok_ints h0
  obtain ⟨b, rfl, _, hb⟩ := ok_ints h1
  exact C_BagBack a b ha hb
end Go.Proofs.Ytcmejdkjfekoeaa
namespace Go.Proofs.Ytcmejdkjfekoeaa
open Go.Pl Go.Bag
theorem merge_len : ∀ (m : Nat) (out a b : List Run), a.length + b.length = m → (merge out a b).length ≤ out.length + m := by
  intro m
  induction m with
  | zero => intro out a b hm; obtain rfl : a = [] := List.eq_nil_of_length_eq_zero (by omega); obtain rfl : b = [] := List.eq_nil_of_length_eq_zero (by omega); simp [merge]
  | succ m ih =>
    intro out a b hm
    match a, b, hm with
    | [], s :: b, hm => rw [show merge out [] (s :: b) = merge (moreL out s.1 s.2) [] b by simp only [merge]]; have := ih (moreL out s.1 s.2) [] b (by simpa using hm); have := moreL_len out s.1 s.2; omega
    | r :: a, [], hm => rw [show merge out (r :: a) [] = merge (moreL out r.1 r.2) a [] by simp only [merge]]; have := ih (moreL out r.1 r.2) a [] (by simpa using hm); have := moreL_len out r.1 r.2; omega
    | r :: a, s :: b, hm =>
      rw [merge]
      split
      · have := ih (moreL out s.1 s.2) (r :: a) b (by simp at hm ⊢; omega); have := moreL_len out s.1 s.2; omega
      · have := ih (moreL out r.1 r.2) a (s :: b) (by simp at hm ⊢; omega); have := moreL_len out r.1 r.2; omega
theorem join_len (a b : List Run) : (join a b).1.length ≤ a.length + b.length := by
  unfold join
  split
  · have := merge_len _ [] a b rfl; simpa using this
  · simp
theorem get_slen {α : Type} {l : List α} {i : Nat} {a : α} {rest : List α} (hd : l.drop i = a :: rest) : i < l.length := by
  have := congrArg List.length hd; simp at this; omega
theorem get_snext {α : Type} {l : List α} {i : Nat} {a : α} {rest : List α} (hd : l.drop i = a :: rest) : l.drop (i + 1) = rest := by
  have := congrArg List.tail hd; simpa [List.tail_drop] using this
theorem get_send {α : Type} {l : List α} {i : Nat} (hd : l.drop i = []) (hi : i ≤ l.length) : i = l.length := by
  have := List.drop_eq_nil_iff.mp hd; omega
theorem quo2 {C : CallP} {r : List POp} {s : PS} {K : PS → Prop} {d : Nat} {x y : PO} {a : Int} (hx : s.ev x = .c (.int .i64 a)) (hy : s.ev y = .c (.int .i64 2)) (ha : 0 ≤ a ∧ a ≤ 9223372036854775807) (h : wL C r (s.put d (.c (.int .i64 (a / 2)))) K) : wL C (⟨some d, .bin .quo x y, none⟩ :: r) s K := by
  refine bin_ hx hy ?_ h
  simp only [binC]
  rw [if_pos ⟨trivial, by decide⟩, Int.tdiv_eq_ediv_of_nonneg ha.1, wrap64_in (by omega)]
/-- what a slice of runs is, as a row hands it in -/
theorem ok_runs {c : CV} (h : LF.Ok (.sl [.int .i64, .int .i64]) c) : ∃ l, c = encL l ∧ ranged l ∧ l.length ≤ 9223372036854775807 := by
  cases h with
  | sl _ es hn hl hh =>
    have : ∀ e ∈ es, ∃ r : Run, e = encR r ∧ I64 r.1 ∧ I64 r.2 := fun e he => by
      have h1 := hl e he
      match e, h1, hh e he with
      | [c, d], _, hh =>
        obtain ⟨a, rfl, ha⟩ := ok_i64 (hh 0 (by simp) (by simp))
        obtain ⟨b, rfl, hb⟩ := ok_i64 (hh 1 (by simp) (by simp))
        exact ⟨(a, b), rfl, ha, hb⟩
    clear hl hh
    have : ∃ l, es = l.map encR ∧ ranged l := by
      induction es with
      | nil => exact ⟨[], rfl, fun a ha => by simp at ha⟩
      | cons e es ih =>
        obtain ⟨a, rfl, ha⟩ := this e (by simp)
        obtain ⟨l, rfl, hl⟩ := ih (by simp at hn; omega) (fun q hq => this q (by simp [hq]))
        exact ⟨a :: l, rfl, fun b hb => by
          rcases List.mem_cons.mp hb with rfl | hb
          · exact ha
          · exact hl b hb⟩
    obtain ⟨l, rfl, hl⟩ := this
    exact ⟨l, rfl, hl, by simpa [maxLen] using hn⟩
theorem ok_u8 {c : CV} (h : LF.Ok (.int .u8) c) : ∃ a, c = .int .u8 a ∧ 0 ≤ a ∧ a ≤ 255 := by
  cases h with
  | int _ a hw => exact ⟨a, rfl, by simpa [Lit.wf, IntKind.min, IntKind.max, IntKind.signed, IntKind.bits] using hw⟩
theorem ok_bool {c : CV} (h : LF.Ok .bool c) : ∃ b, c = .bool b := by
  cases h with
  | bool b => exact ⟨b, rfl⟩
theorem ok_i32 {c : CV} (h : LF.Ok (.int .i32) c) : ∃ a, c = .int .i32 a ∧ -2147483648 ≤ a ∧ a ≤ 2147483647 := by
  cases h with
  | int _ a hw => exact ⟨a, rfl, by simpa [Lit.wf, IntKind.min, IntKind.max, IntKind.signed, IntKind.bits] using hw⟩
theorem ok_u16 {c : CV} (h : LF.Ok (.int .u16) c) : ∃ a, c = .int .u16 a ∧ 0 ≤ a ∧ a ≤ 65535 := by
  cases h with
  | int _ a hw => exact ⟨a, rfl, by simpa [Lit.wf, IntKind.min, IntKind.max, IntKind.signed, IntKind.bits] using hw⟩
end Go.Proofs.Ytcmejdkjfekoeaa
namespace Go.Proofs.Ytcmejdkjfekoeaa
open Go.Pl Go.Bag
set_option maxHeartbeats 16000000
def encS (l : List Run) : List CV := [encL l]
def encLL (ls : List (List Run)) : CV := .sl (ls.map encS)
theorem get_s {ls : List (List Run)} {i : Nat} {x : List Run} {rest : List (List Run)} (hd : ls.drop i = x :: rest) : (ls.map encS)[i]? = some (encS x) := by
  have : ls[i]? = some x := by have := congrArg List.head? hd; simpa [List.head?_drop] using this
  simp [this]
theorem tells_has {K : Ex → PS → Prop} (l : List Int) (hlen : l.length ≤ 60) (x : List Run) (hx60 : x.length ≤ 60) (v8 v46 v47 v48 : PV) : ∀ (rest : List Int) (i : Nat) (s : PS), l.drop i = rest → i ≤ l.length →
    s.t 2 = .c (encIL l) → s.t 10 = .c (encL x) → s.t 11 = .c (.int .i64 i) → s.t 8 = v8 → s.t 46 = v46 → s.t 47 = v47 → s.t 48 = v48 →
    (∀ s', s'.t 2 = .c (encIL l) → s'.t 10 = .c (encL x) → s'.t 8 = v8 → s'.t 46 = v46 → s'.t 47 = v47 → s'.t 48 = v48 → K (.x 2) s') → wP (PCallG Try.prog) (.loop b7_1) s K := by
  intro rest
  induction rest with
  | nil =>
    intro i s hd hi t2 t10 t11 t8 t46 t47 t48 hx
    refine w_loop ?_
    have hi' := get_iend hd hi
    subst hi'
    rw [← put_same t2, ← put_same t10, ← put_same t11, ← put_same t8, ← put_same t46, ← put_same t47, ← put_same t48]
    unfold b7_1 r7_11 r7_12 r7_13 r7_14
    repeat' (first
      | refine len_sl rfl (List.length_map _) ?_
      | refine w_seq ?_
      | refine w_ops ?_
      | refine st_nil ?_
      | refine th_n ?_
      | refine th_x ?_
      | refine w_exit ?_
      | refine w_false rfl ?_
      | refine g_no rfl ?_
      | refine mv_c rfl ?_
      | refine pick_f rfl rfl ?_
      | refine lss_f rfl rfl (by omega) ?_)
    exact hx _ rfl rfl rfl rfl rfl rfl
  | cons a rest ih =>
    intro i s hd hi t2 t10 t11 t8 t46 t47 t48 hx
    refine w_loop ?_
    have he := get_int hd
    have hil := get_ilen hd
    have hn := get_inext hd
    have c1 := C_Has x a (by omega)
    have c2 := C_rHas x a (by omega)
    generalize (if good x = true then has x a else 0) = q at c1 c2
    rw [← put_same t2, ← put_same t10, ← put_same t11, ← put_same t8, ← put_same t46, ← put_same t47, ← put_same t48]
    unfold b7_1 r7_11 r7_12 r7_13 r7_14
    by_cases h3 : i < 3
    · repeat' (first
      | refine len_sl rfl (List.length_map _) ?_
      | refine call2 rfl rfl c1 ?_
      | refine call2 rfl rfl c2 ?_
      | refine w_seq ?_
      | refine w_ops ?_
      | refine w_opsD0 rfl ?_
      | refine st_nil ?_
      | refine th_n ?_
      | refine bk_n ?_
      | refine w_block ?_
      | refine w_skip ?_
      | refine w_true rfl ?_
      | refine w_false rfl ?_
      | refine g_yes rfl ?_
      | refine mv_c rfl ?_
      | refine pick_t rfl rfl ?_
      | refine lss_t rfl rfl (by omega) ?_
      | refine neq_f rfl rfl (by omega) ?_
      | refine add_in rfl rfl (by omega) ?_
      | refine load_rp rfl (Nat.le_of_ble_eq_true rfl) rfl ?_
      | refine iaS_c rfl rfl (by omega) (by assumption) rfl ?_)
      exact ih (i + 1) _ hn (by omega) (by rfl) (by rfl) (by rfl) (by rfl) (by rfl) (by rfl) (by rfl) hx
    · repeat' (first
      | refine len_sl rfl (List.length_map _) ?_
      | refine w_seq ?_
      | refine w_ops ?_
      | refine st_nil ?_
      | refine th_n ?_
      | refine th_x ?_
      | refine w_exit ?_
      | refine w_false rfl ?_
      | refine g_yes rfl ?_
      | refine mv_c rfl ?_
      | refine pick_t rfl rfl ?_
      | refine lss_t rfl rfl (by omega) ?_
      | refine lss_f rfl rfl (by omega) ?_)
      exact hx _ rfl rfl rfl rfl rfl rfl
theorem same_T (j : List Run) (h : j.length < 4611686018427387904) : PCallG Try.prog 41 [.c (encL j), .c (encL j)] (.c (.bool true)) [] := by
  have := C_rSame j j h h
  rw [decide_eq_true rfl] at this; exact this
theorem minusL_len : ∀ (a out b : List Run) (o k : List Run), minusL out a b = some (o, k) → o.length ≤ out.length + a.length
  | [], out, b, o, k, h => by simp only [minusL] at h; obtain ⟨rfl, rfl⟩ := Prod.mk.inj (Option.some.inj h); simp
  | r :: a, out, b, o, k, h => by
    rw [minusL_cons] at h
    split at h
    · cases h
    · have := minusL_len a _ _ o k h
      simp only [List.length_cons]
      split at this
      · simp only [List.length_append, List.length_cons, List.length_nil] at this; omega
      · omega
theorem minus_len (a b : List Run) : (minus a b).1.length ≤ a.length := by
  unfold minus
  split
  · split
    · rename_i o h; have := minusL_len a [] b o [] h; simpa using this
    · simp
  · simp
theorem tells_y {K : Ex → PS → Prop} (all : List (List Run)) (h60 : ∀ y ∈ all, y.length ≤ 60) (hall : all.length ≤ 60) (x : List Run) (hx60 : x.length ≤ 60) (v2 v8 v46 v47 v48 : PV) : ∀ (rest : List (List Run)) (i : Nat) (s : PS), all.drop i = rest → i ≤ all.length →
    s.t 97 = .c (encLL all) → s.t 98 = .c (.int .i64 all.length) → s.t 99 = .c (.int .i64 i) → s.t 10 = .c (encL x) → s.t 2 = v2 → s.t 8 = v8 → s.t 46 = v46 → s.t 47 = v47 → s.t 48 = v48 →
    (∀ s', s'.t 10 = .c (encL x) → s'.t 2 = v2 → s'.t 8 = v8 → s'.t 46 = v46 → s'.t 47 = v47 → s'.t 48 = v48 → K (.x 4) s') → wP (PCallG Try.prog) (.loop b7_2) s K := by
  intro rest
  induction rest with
  | nil =>
    intro i s hd hi t97 t98 t99 t10 t2 t8 t46 t47 t48 hx
    refine w_loop ?_
    have hi' := get_send hd hi
    subst hi'
    rw [← put_same t97, ← put_same t98, ← put_same t99, ← put_same t10, ← put_same t2, ← put_same t8, ← put_same t46, ← put_same t47, ← put_same t48]
    unfold b7_2 r7_16 r7_17 r7_18 r7_19 r7_20 r7_21 r7_22 r7_23
    repeat' (first
      | refine w_seq ?_
      | refine w_ops ?_
      | refine st_nil ?_
      | refine th_n ?_
      | refine th_x ?_
      | refine w_exit ?_
      | refine w_false rfl ?_
      | refine lss_f rfl rfl (by omega) ?_)
    exact hx _ rfl rfl rfl rfl rfl rfl
  | cons y rest ih =>
    intro i s hd hi t97 t98 t99 t10 t2 t8 t46 t47 t48 hx
    refine w_loop ?_
    have he := get_s hd
    have hil := get_slen hd
    have hn := get_snext hd
    have hy : y.length ≤ 60 := h60 y (List.mem_of_mem_drop (by rw [hd]; simp))
    have c1 := C_Join x y (by omega) (by omega)
    have c2 := C_Minus x y (by omega) (by omega)
    have c3 := C_rJoin x y (by omega) (by omega)
    have c4 := C_rMinus x y (by omega) (by omega)
    have l1 := join_len x y
    have l2 := minus_len x y
    have c5 := same_T (join x y).1 (by omega)
    have c6 := same_T (minus x y).1 (by omega)
    have c7 := C_Same x y (by omega) (by omega)
    have c8 := C_rSame x y (by omega) (by omega)
    generalize join x y = jp at c1 c3 c5
    generalize minus x y = mq at c2 c4 c6
    obtain ⟨j, p⟩ := jp
    obtain ⟨m, q⟩ := mq
    generalize decide (x = y) = e at c7 c8
    have n1 : ∀ b : Bool, eqC false [LK.b] (CV.bool b) (CV.bool b) = some true := fun b => by simp [eqC, shEq]
    rw [← put_same t97, ← put_same t98, ← put_same t99, ← put_same t10, ← put_same t2, ← put_same t8, ← put_same t46, ← put_same t47, ← put_same t48]
    unfold b7_2 r7_16 r7_17 r7_18 r7_19 r7_20 r7_21 r7_22 r7_23
    repeat' (first
      | refine call2 rfl rfl c1 ?_
      | refine call2 rfl rfl c2 ?_
      | refine call2 rfl rfl c3 ?_
      | refine call2 rfl rfl c4 ?_
      | refine call2 rfl rfl c5 ?_
      | refine call2 rfl rfl c6 ?_
      | refine call2 rfl rfl c7 ?_
      | refine call2 rfl rfl c8 ?_
      | refine eqs_f rfl rfl (n1 _) ?_
      | refine w_seq ?_
      | refine w_ops ?_
      | refine st_nil ?_
      | refine th_n ?_
      | refine bk_n ?_
      | refine w_block ?_
      | refine w_skip ?_
      | refine w_true rfl ?_
      | refine w_false rfl ?_
      | refine g_yes rfl ?_
      | refine mv_c rfl ?_
      | refine pick_f rfl rfl ?_
      | refine lss_t rfl rfl (by omega) ?_
      | refine not_ rfl ?_
      | refine add_in rfl rfl (by omega) ?_
      | refine alloc_ (fun u => ?_)
      | refine load_rp rfl (Nat.le_of_ble_eq_true rfl) rfl ?_
      | refine load_ptr rfl (by decide) rfl (Nat.le_of_ble_eq_true rfl) rfl ?_
      | refine store_ptr rfl rfl (by decide) rfl rfl (Nat.le_of_ble_eq_true rfl) rfl ?_
      | refine fad_ptr rfl rfl rfl ?_
      | refine iaS_c rfl rfl (by omega) (by assumption) rfl ?_
      | refine ext_ rfl rfl ?_)
    exact ih (i + 1) _ hn (by omega) (by rfl) (by rfl) (by rfl) (by rfl) (by rfl) (by rfl) (by rfl) (by rfl) (by rfl) hx
theorem tells_x {K : Ex → PS → Prop} (l : List Int) (hlen : l.length ≤ 60) (all : List (List Run)) (h60 : ∀ y ∈ all, y.length ≤ 60) (hall : all.length ≤ 60) (hr : ∀ y ∈ all, ranged y) : ∀ (rest : List (List Run)) (i : Nat) (s : PS), all.drop i = rest → i ≤ all.length →
    s.t 46 = .c (encLL all) → s.t 47 = .c (.int .i64 all.length) → s.t 48 = .c (.int .i64 i) → s.t 2 = .c (encIL l) → s.t 8 = .c (encLL all) →
    (∀ s', s'.t 2 = .c (encIL l) → s'.t 8 = .c (encLL all) → K (.x 0) s') → wP (PCallG Try.prog) (.loop b7_0) s K := by
  intro rest
  induction rest with
  | nil =>
    intro i s hd hi t46 t47 t48 t2 t8 hx
    refine w_loop ?_
    have hi' := get_send hd hi
    subst hi'
    rw [← put_same t46, ← put_same t47, ← put_same t48, ← put_same t2, ← put_same t8]
    unfold b7_0 r7_6 r7_7 r7_8 r7_9 r7_10 r7_15 r7_24
    repeat' (first
      | refine w_seq ?_
      | refine w_ops ?_
      | refine st_nil ?_
      | refine th_n ?_
      | refine th_x ?_
      | refine w_exit ?_
      | refine w_false rfl ?_
      | refine lss_f rfl rfl (by omega) ?_)
    exact hx _ rfl rfl
  | cons x rest ih =>
    intro i s hd hi t46 t47 t48 t2 t8 hx
    refine w_loop ?_
    have he := get_s hd
    have hil := get_slen hd
    have hn := get_snext hd
    have hm : x ∈ all := List.mem_of_mem_drop (by rw [hd]; simp)
    have hx60 := h60 x hm
    have c1 := C_good x (by omega)
    have c2 := C_rGood x (by omega)
    have c3 := C_Count x (by omega)
    have c4 := C_rCount x (by omega)
    have c5 := C_lawSum x (by omega) (hr x hm)
    have c6 := C_lawEnds x (by omega)
    generalize (if good x = true then sum x else 0) = q at c3 c4
    generalize good x = g at c1 c2
    have n1 : ∀ b : Bool, eqC false [LK.b] (CV.bool b) (CV.bool b) = some true := fun b => by simp [eqC, shEq]
    rw [← put_same t46, ← put_same t47, ← put_same t48, ← put_same t2, ← put_same t8]
    unfold b7_0 r7_6 r7_7 r7_8 r7_9 r7_10 r7_15 r7_24
    repeat' (first
      | refine call1 rfl c1 ?_
      | refine call1 rfl c2 ?_
      | refine call1 rfl c3 ?_
      | refine call1 rfl c4 ?_
      | refine call1 rfl c5 ?_
      | refine call1 rfl c6 ?_
      | refine eqs_f rfl rfl (n1 _) ?_
      | refine w_seq ?_
      | refine w_ops ?_
      | refine st_nil ?_
      | refine th_n ?_
      | refine w_block ?_
      | refine w_skip ?_
      | refine w_true rfl ?_
      | refine w_false rfl ?_
      | refine g_yes rfl ?_
      | refine mv_c rfl ?_
      | refine pick_f rfl rfl ?_
      | refine lss_t rfl rfl (by omega) ?_
      | refine neq_f rfl rfl (by omega) ?_
      | refine not_ rfl ?_
      | refine load_rp rfl (Nat.le_of_ble_eq_true rfl) rfl ?_
      | refine iaS_c rfl rfl (by omega) (by assumption) rfl ?_)
    refine tells_has l hlen x hx60 _ _ _ _ l 0 _ rfl (by omega) (by rfl) (by rfl) (by rfl) (by rfl) (by rfl) (by rfl) (by rfl) ?_
    intro s' u2 u10 u8 u46 u47 u48
    rw [← put_same u2, ← put_same u10, ← put_same u8, ← put_same u46, ← put_same u47, ← put_same u48]
    repeat' (first
      | refine len_sl rfl (List.length_map _) ?_
      | refine w_seq ?_
      | refine w_ops ?_
      | refine st_nil ?_
      | refine th_n ?_
      | refine bk_x ?_
      | refine w_block ?_
      | refine mv_c rfl ?_)
    refine tells_y all h60 hall x hx60 _ _ _ _ _ all 0 _ rfl (by omega) (by rfl) (by rfl) (by rfl) (by rfl) (by rfl) (by rfl) (by rfl) (by rfl) (by rfl) ?_
    intro s'' w10 w2 w8 w46 w47 w48
    rw [← put_same w10, ← put_same w2, ← put_same w8, ← put_same w46, ← put_same w47, ← put_same w48]
    repeat' (first
      | refine w_ops ?_
      | refine st_nil ?_
      | refine th_n ?_
      | refine bk_n ?_
      | refine bk_x ?_
      | refine mv_c rfl ?_
      | refine add_in rfl rfl (by omega) ?_)
    exact ih (i + 1) _ hn (by omega) (by rfl) (by rfl) (by rfl) (by rfl) (by rfl) hx
theorem C_BagTells (a b : List Run) (l : List Int) (ha : a.length ≤ 9223372036854775807) (hb : b.length ≤ 9223372036854775807) (hl : l.length ≤ 9223372036854775807) (ra : ranged a) (rb : ranged b) (rl : I64s l) :
    PCallG Try.prog 7 [.c (encL a), .c (encL b), .c (encIL l)] (.c (.bool true)) [] := by
  refine pcallF Try.func7 c7 rfl ?_
  have hw := C_wakes8
  unfold p7 r7_0 r7_1 r7_2 r7_3 r7_4 r7_5 r7_25
  by_cases h1 : a.length ≤ 60
  · by_cases h2 : b.length ≤ 60
    · by_cases h3 : l.length ≤ 60
      · have c1 := C_rOf l (by omega)
        have c2 := C_rOf (l.take (l.length / 2)) (by simp; omega)
        have c2' : PCallG Try.prog 33 [.c (.sl ((l.map encI).take (l.length / 2)))] (.c (encL (ofL (l.take (l.length / 2))))) [] := by rw [← List.map_take]; exact c2
        have c3 := C_Of l (by omega)
        have l1 := (ofL_facts l).2.2.2.2
        have l2 := (ofL_facts (l.take (l.length / 2))).2.2.2.2
        have l3 : (l.take (l.length / 2)).length ≤ l.length := by simp; omega
        have c4 := same_T (ofL l) (by omega)
        have w0 : ∀ e ∈ l.map encI, e.length = 1 := fun e he => by obtain ⟨x, _, rfl⟩ := List.mem_map.mp he; rfl
        have hd : ((l.length : Int) / 2).toNat = l.length / 2 := by omega
        have s2 : ((l.map encI).take (l.length / 2)).drop 0 = (l.map encI).take (l.length / 2) := rfl
        have hbd : 0 ≤ (l.length : Int) / 2 := by omega
        obtain ⟨k, hk⟩ : ∃ k : Nat, (l.length : Int) / 2 = k ∧ k = l.length / 2 := ⟨l.length / 2, by omega, rfl⟩
        obtain ⟨hk1, hk2⟩ := hk
        have rr : ranged (ofL l) := ranged_ofL rl (by omega)
        have rr2 : ranged (ofL (l.take (l.length / 2))) := ranged_ofL (fun x hx => rl x (List.mem_of_mem_take hx)) (by omega)
        rw [← hk2] at c2' s2 rr2 l2 l3
        repeat' (first
          | refine len_sl rfl (List.length_map _) ?_
          | refine quo2 rfl rfl (by omega) ?_
          | refine w_seq ?_
          | refine w_ops ?_
          | refine w_opsD0 rfl ?_
          | refine st_nil ?_
          | refine th_n ?_
          | refine w_skip ?_
          | refine w_false rfl ?_
          | refine g_yes rfl ?_
          | refine mv_c rfl ?_
          | refine pick_f rfl rfl ?_
          | refine gtr_f rfl rfl (by omega) ?_)
        rw [hk1]
        repeat' (first
          | refine call1 rfl c1 ?_
          | refine call1 rfl c2' ?_
          | refine slc_c (i := 0) (j := k) rfl rfl rfl (by simp; omega) w0 s2 ?_
          | refine len_sl (n := 4) rfl rfl ?_
          | refine w_seq ?_
          | refine w_ops ?_
          | refine st_nil ?_
          | refine th_n ?_
          | refine w_block ?_
          | refine mv_c rfl ?_
          | refine bsl_ rfl rfl ?_)
        refine tells_x l h3 [a, b, ofL l, ofL (l.take k)] ?_ (by simp) ?_ [a, b, ofL l, ofL (l.take k)] 0 _ rfl (by simp) (by rfl) (by rfl) (by rfl) (by rfl) (by rfl) ?_
        · intro y hy
          simp only [List.mem_cons, List.not_mem_nil, or_false] at hy
          rcases hy with rfl | rfl | rfl | rfl <;> omega
        · intro y hy
          simp only [List.mem_cons, List.not_mem_nil, or_false] at hy
          rcases hy with rfl | rfl | rfl | rfl <;> assumption
        · intro s' u2 u8
          rw [← put_same u2, ← put_same u8]
          have g2 : ([a, b, ofL l, ofL (l.take k)].map encS)[(2 : Int).toNat]? = some (encS (ofL l)) := rfl
          repeat' (first
            | refine call1 rfl c3 ?_
            | refine call2 rfl rfl c4 ?_
            | refine call0 hw ?_
            | refine w_seq ?_
            | refine w_opsD0 rfl ?_
            | refine st_nil ?_
            | refine th_n ?_
            | refine bk_x ?_
            | refine w_ret ?_
            | refine g_yes rfl ?_
            | refine mv_c rfl ?_
            | refine pick_t rfl rfl ?_
            | refine load_rp rfl (Nat.le_of_ble_eq_true rfl) rfl ?_
            | refine iaS_c rfl rfl (by omega) (by assumption) rfl ?_)
          exact fin_r rfl rfl
      · repeat' (first
        | refine len_sl rfl (List.length_map _) ?_
        | refine call0 hw ?_
        | refine w_seq ?_
        | refine w_ops ?_
        | refine st_nil ?_
        | refine th_n ?_
        | refine th_r ?_
        | refine w_ret ?_
        | refine w_true rfl ?_
        | refine g_yes rfl ?_
        | refine mv_c rfl ?_
        | refine pick_f rfl rfl ?_
        | refine gtr_t rfl rfl (by omega) ?_
        | refine gtr_f rfl rfl (by omega) ?_)
        exact fin_r rfl rfl
    · repeat' (first
      | refine len_sl rfl (List.length_map _) ?_
      | refine call0 hw ?_
      | refine w_seq ?_
      | refine w_ops ?_
      | refine st_nil ?_
      | refine th_n ?_
      | refine th_r ?_
      | refine w_ret ?_
      | refine w_true rfl ?_
      | refine g_yes rfl ?_
      | refine g_no rfl ?_
      | refine mv_c rfl ?_
      | refine pick_t rfl rfl ?_
      | refine pick_f rfl rfl ?_
      | refine gtr_t rfl rfl (by omega) ?_
      | refine gtr_f rfl rfl (by omega) ?_)
      exact fin_r rfl rfl
  · repeat' (first
    | refine len_sl rfl (List.length_map _) ?_
    | refine call0 hw ?_
    | refine w_seq ?_
    | refine w_ops ?_
    | refine st_nil ?_
    | refine th_n ?_
    | refine th_r ?_
    | refine w_ret ?_
    | refine w_true rfl ?_
    | refine g_no rfl ?_
    | refine mv_c rfl ?_
    | refine pick_t rfl rfl ?_
    | refine gtr_t rfl rfl (by omega) ?_)
    exact fin_r rfl rfl
theorem L_BagTells (c0 : CV) (h0 : LF.Ok (.sl [.int .i64, .int .i64]) c0) (c1 : CV) (h1 : LF.Ok (.sl [.int .i64, .int .i64]) c1) (c2 : CV) (h2 : LF.Ok (.sl [.int .i64]) c2) : PCallG Try.prog 7 [.c c0, .c c1, .c c2] (.c (.bool true)) [] := by
  obtain ⟨a, rfl, ra, ha⟩ := ok_runs h0
  obtain ⟨b, rfl, rb, hb⟩ := ok_runs h1
  obtain ⟨l, rfl, rl, hl⟩ := ok_ints h2
  exact C_BagTells a b l ha hb hl ra rb rl
end Go.Proofs.Ytcmejdkjfekoeaa

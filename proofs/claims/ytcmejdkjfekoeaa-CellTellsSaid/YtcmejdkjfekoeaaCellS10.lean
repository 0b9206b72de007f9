/- Part of the proof of CellMean, CellOrder, CellJoins, CellLines, CellTells: lemmas. -/
import Derived.Test.YtcmejdkjfekoeaaCellS5
import Derived.Test.YtcmejdkjfekoeaaCellS7
import Derived.Test.YtcmejdkjfekoeaaCellS8
import Derived.Test.YtcmejdkjfekoeaaCellS9
set_option linter.unusedVariables false
set_option linter.unusedSimpArgs false
/-
  CELLS, PLAIN: what is known of some rows. My own work.
-/
namespace Go.Bag
open Go.Pl
structure Cell where
  n : Int
  s0 : Int
  s1 : Int
  b0 : List Run
  b1 : List Run
  deriving DecidableEq
def zeroC : Cell := ⟨0, 0, 0, [], []⟩
def encC (c : Cell) : List CV := [.int .i64 c.n, .int .i64 c.s0, .int .i64 c.s1, encL c.b0, encL c.b1]
def encCell (c : Cell) : CV := .agg (encC c)
def in64 (a : Int) : Prop := -9223372036854775808 ≤ a ∧ a ≤ 9223372036854775807
instance (a : Int) : Decidable (in64 a) := by unfold in64; infer_instance
/-- numbers of 64 bits, runs that are few -/
def inC (k : Nat) (c : Cell) : Prop := in64 c.n ∧ in64 c.s0 ∧ in64 c.s1 ∧ ranged c.b0 ∧ ranged c.b1 ∧ c.b0.length ≤ k ∧ c.b1.length ≤ k
/-- a measure's values are so many, and come to that -/
def gM (b : List Run) (s n : Int) : Bool := decide (good b = true ∧ wsum b = s ∧ sum b = n)
def goodC (m : Int) (c : Cell) : Bool := decide ((1 ≤ m ∧ m ≤ 2) ∧ (1 ≤ c.n ∧ c.n ≤ 1099511627776) ∧ gM c.b0 c.s0 c.n = true ∧ (if m = 2 then gM c.b1 c.s1 c.n = true else c.s1 = 0 ∧ c.b1 = []))
/-- the cell of both -/
def joinC (m : Int) (a b : Cell) : Cell × Bool :=
  if goodC m a = true ∧ goodC m b = true ∧ a.n + b.n ≤ 1099511627776 ∧ in64 (a.s0 + b.s0) ∧ (m = 2 → in64 (a.s1 + b.s1)) then
    (⟨a.n + b.n, a.s0 + b.s0, if m = 2 then a.s1 + b.s1 else 0, (join a.b0 b.b0).1, if m = 2 then (join a.b1 b.b1).1 else []⟩, true) else (zeroC, false)
structure LineS where
  p0 : Int
  p1 : Int
  p2 : Int
  p3 : Int
  n : Int
  s0 : Int
  s1 : Int
  lo0 : Int
  lo1 : Int
  hi0 : Int
  hi1 : Int
  deriving DecidableEq
def encLn (l : LineS) : List CV := [.int .u8 l.p0, .int .u8 l.p1, .int .u8 l.p2, .int .u8 l.p3, .int .i64 l.n, .int .i64 l.s0, .int .i64 l.s1, .int .i64 l.lo0, .int .i64 l.lo1, .int .i64 l.hi0, .int .i64 l.hi1]
def encLine (l : LineS) : CV := .agg (encLn l)
def zeroLn : LineS := ⟨0, 0, 0, 0, 0, 0, 0, 0, 0, 0, 0⟩
structure Place where
  p0 : Int
  p1 : Int
  p2 : Int
  p3 : Int
  deriving DecidableEq
def encP (p : Place) : List CV := [.int .u8 p.p0, .int .u8 p.p1, .int .u8 p.p2, .int .u8 p.p3]
def lo_ (b : List Run) : Int := match b.head? with | some r => r.1 | none => 0
def hi_ (b : List Run) : Int := match b.getLast? with | some r => r.1 | none => 0
def lineC (m : Int) (p : Place) (c : Cell) : LineS :=
  if goodC m c then ⟨p.p0, p.p1, p.p2, p.p3, c.n, c.s0, if m = 2 then c.s1 else 0, lo_ c.b0, if m = 2 then lo_ c.b1 else 0, hi_ c.b0, if m = 2 then hi_ c.b1 else 0⟩ else zeroLn
/-- a row: its place, its measures -/
structure RowS where
  p : Place
  m0 : Int
  m1 : Int
  deriving DecidableEq
def encRow (r : RowS) : List CV := encP r.p ++ [.int .i64 r.m0, .int .i64 r.m1]
def encRows (l : List RowS) : CV := .sl (l.map encRow)
/-- the cell of rows -/
def ofC (m : Int) (l : List RowS) : Cell × Bool :=
  if (1 ≤ m ∧ m ≤ 2) ∧ l ≠ [] ∧ in64 (sumI (l.map (·.m0))) ∧ (m = 2 → in64 (sumI (l.map (·.m1)))) then
    (⟨l.length, sumI (l.map (·.m0)), if m = 2 then sumI (l.map (·.m1)) else 0, ofL (l.map (·.m0)), if m = 2 then ofL (l.map (·.m1)) else []⟩, true) else (zeroC, false)
theorem goodC_iff {m : Int} {c : Cell} : goodC m c = true ↔ (1 ≤ m ∧ m ≤ 2) ∧ (1 ≤ c.n ∧ c.n ≤ 1099511627776) ∧ gM c.b0 c.s0 c.n = true ∧ (if m = 2 then gM c.b1 c.s1 c.n = true else c.s1 = 0 ∧ c.b1 = []) := by
  simp only [goodC, decide_eq_true_eq]
theorem gM_iff {b : List Run} {s n : Int} : gM b s n = true ↔ good b = true ∧ wsum b = s ∧ sum b = n := by simp only [gM, decide_eq_true_eq]
/-- the sum of all of two -/
theorem wsum_merge : ∀ (m : Nat) (out a b : List Run), a.length + b.length = m → wsum (merge out a b) = wsum out + wsum a + wsum b := by
  intro m
  induction m with
  | zero =>
    intro out a b hm
    obtain rfl : a = [] := List.eq_nil_of_length_eq_zero (by omega)
    obtain rfl : b = [] := List.eq_nil_of_length_eq_zero (by omega)
    simp [merge, wsum]
  | succ m ih =>
    intro out a b hm
    match a, b, hm with
    | [], s :: b, hm => rw [show merge out [] (s :: b) = merge (moreL out s.1 s.2) [] b by simp only [merge], ih _ [] b (by simpa using hm), wsum_moreL]; simp only [wsum]; omega
    | r :: a, [], hm => rw [show merge out (r :: a) [] = merge (moreL out r.1 r.2) a [] by simp only [merge], ih _ a [] (by simpa using hm), wsum_moreL]; simp only [wsum]; omega
    | r :: a, s :: b, hm =>
      rw [merge]
      split
      · rw [ih _ (r :: a) b (by simp at hm ⊢; omega), wsum_moreL]; simp only [wsum]; omega
      · rw [ih _ a (s :: b) (by simp at hm ⊢; omega), wsum_moreL]; simp only [wsum]; omega
theorem join_sum {a b : List Run} (ga : good a = true) (gb : good b = true) (h : sum a + sum b ≤ 1099511627776) : good (join a b).1 = true ∧ sum (join a b).1 = sum a + sum b ∧ wsum (join a b).1 = wsum a + wsum b ∧ (join a b).2 = true := by
  obtain ⟨o, h1, h2, h3, h4⟩ := join_ok ga gb h
  have e : join a b = (merge [] a b, true) := by unfold join; rw [if_pos ⟨ga, gb, by omega⟩]
  rw [h1] at e
  obtain rfl : o = merge [] a b := (Prod.mk.inj e).1
  rw [h1]
  exact ⟨h2, h3, by rw [wsum_merge _ [] a b rfl]; simp [wsum], rfl⟩
end Go.Bag
namespace Go.Proofs.Ytcmejdkjfekoeaa
open Go.Pl Go.Bag
set_option maxHeartbeats 16000000
theorem in64_I {a : Int} : in64 a ↔ I64 a := Iff.rfl
theorem C_cGood (m : Int) (c : Cell) (hc : inC 1000000 c) : PCallG Try.prog 47 [.c (.int .i64 m), .c (encCell c)] (.c (.bool (goodC m c))) [] := by
  obtain ⟨n, s0, s1, b0, b1⟩ := c
  obtain ⟨hn, hs0, hs1, hr0, hr1, hl0, hl1⟩ := hc
  simp only at hn hs0 hs1 hr0 hr1 hl0 hl1
  show PCallG _ 47 [.c (.int .i64 m), .c (.agg [.int .i64 n, .int .i64 s0, .int .i64 s1, encL b0, encL b1])] _ _
  refine pcallF Try.func47 c47 rfl ?_
  have c1 := C_measures m
  have c2 := C_Sum b0 (by omega) hr0
  have c3 := C_Sum b1 (by omega) hr1
  have c4 := C_Count b0 (by omega)
  have c5 := C_Count b1 (by omega)
  -- what a measure's values come to, and what of it
  have key : ∀ (b : List Run) (s : Int), I64 s → (gM b s n = true ∧ sumB b = (s, true) ∧ (if good b = true then sum b else 0) = n) ∨
      (gM b s n = false ∧ ((sumB b).2 = false ∨ ((sumB b).2 = true ∧ (sumB b).1 ≠ s) ∨ ((sumB b).2 = true ∧ (sumB b).1 = s ∧ (if good b = true then sum b else 0) ≠ n))) := fun b s hs => by
    cases hg : good b with
    | false =>
      refine .inr ⟨by simp [gM, hg], .inl (by simp [sumB, hg])⟩
    | true =>
      by_cases hw : I64 (wsum b)
      · have e : sumB b = (wsum b, true) := by simp [sumB, hg, hw]
        rw [e]
        simp only [if_true]
        by_cases h1 : wsum b = s
        · by_cases h2 : sum b = n
          · exact .inl ⟨by simp [gM, hg, h1, h2], by rw [h1], h2⟩
          · exact .inr ⟨by simp [gM, h2], .inr (.inr ⟨trivial, h1, h2⟩)⟩
        · exact .inr ⟨by simp [gM, h1], .inr (.inl ⟨trivial, h1⟩)⟩
      · have e : sumB b = (0, false) := by simp [sumB, hw]
        refine .inr ⟨?_, .inl (by rw [e])⟩
        have : ¬ wsum b = s := fun h => hw (by rw [h]; exact hs)
        simp [gM, this]
  unfold p47 r47_0 r47_1 r47_2 r47_3 r47_13
  by_cases hm : 1 ≤ m ∧ m ≤ 2
  · rw [decide_eq_true hm] at c1
    by_cases hnn : 1 ≤ n ∧ n ≤ 1099511627776
    · have k0 := key b0 s0 hs0
      have k1 := key b1 s1 hs1
      generalize sumB b0 = q at c2 k0
      generalize sumB b1 = r at c3 k1
      obtain ⟨q1, q2⟩ := q
      obtain ⟨r1, r2⟩ := r
      generalize (if good b0 = true then sum b0 else 0) = g0 at c4 k0
      generalize (if good b1 = true then sum b1 else 0) = g1 at c5 k1
      rcases k0 with ⟨p1, p2, p3⟩ | ⟨p1, p2⟩
      · obtain ⟨rfl, rfl⟩ := Prod.mk.inj p2
        subst p3
        repeat' (first
          | refine call1 rfl c1 ?_
          | refine w_seq ?_
          | refine w_ops ?_
          | refine st_nil ?_
          | refine th_n ?_
          | refine w_block ?_
          | refine w_skip ?_
          | refine w_false rfl ?_
          | refine g_yes rfl ?_
          | refine mv_c rfl ?_
          | refine pick_f rfl rfl ?_
          | refine lss_f rfl rfl (by omega) ?_
          | refine gtr_f rfl rfl (by omega) ?_
          | refine not_ rfl ?_
          | refine box_ rfl rfl rfl (fun u => ?_)
          | refine load_ptr rfl (by decide) rfl (Nat.le_of_ble_eq_true rfl) rfl ?_
          | refine fad_ptr rfl rfl rfl ?_)
        refine w_loop ?_
        unfold b47_0 r47_4 r47_5 r47_6 r47_7 r47_8 r47_9 r47_10 r47_11 r47_12
        repeat' (first
          | refine idA_ rfl rfl ⟨by omega, by omega, Nat.le_of_ble_eq_true rfl⟩ rfl ?_
          | refine call1 rfl c2 ?_
          | refine call1 rfl c4 ?_
          | refine w_seq ?_
          | refine w_ops ?_
          | refine w_opsD0 rfl ?_
          | refine st_nil ?_
          | refine th_n ?_
          | refine bk_n ?_
          | refine w_block ?_
          | refine w_skip ?_
          | refine w_true rfl ?_
          | refine w_false rfl ?_
          | refine g_yes rfl ?_
          | refine mv_c rfl ?_
          | refine pick_f rfl rfl ?_
          | refine lss_t rfl rfl (by omega) ?_
          | refine geq_f rfl rfl (by omega) ?_
          | refine neq_f rfl rfl (by omega) ?_
          | refine not_ rfl ?_
          | refine add_in rfl rfl (by omega) ?_
          | refine load_ptr rfl (by decide) rfl (Nat.le_of_ble_eq_true rfl) rfl ?_
          | refine fad_ptr rfl rfl rfl ?_
          | refine iaA_ptr rfl rfl rfl (by omega) rfl ?_
          | refine ext_ rfl rfl ?_)
        refine w_loop ?_
        by_cases hm2 : m = 2
        · rcases k1 with ⟨t1, t2, t3⟩ | ⟨t1, t2⟩
          · obtain ⟨rfl, rfl⟩ := Prod.mk.inj t2
            subst t3
            rw [goodC_iff.mpr ⟨hm, hnn, p1, by rw [if_pos hm2]; exact t1⟩]
            repeat' (first
              | refine idA_ rfl rfl ⟨by omega, by omega, Nat.le_of_ble_eq_true rfl⟩ rfl ?_
              | refine call1 rfl c3 ?_
              | refine call1 rfl c5 ?_
              | refine w_seq ?_
              | refine w_ops ?_
              | refine w_opsD0 rfl ?_
              | refine st_nil ?_
              | refine th_n ?_
              | refine bk_n ?_
              | refine w_block ?_
              | refine w_skip ?_
              | refine w_true rfl ?_
              | refine w_false rfl ?_
              | refine g_yes rfl ?_
              | refine mv_c rfl ?_
              | refine pick_f rfl rfl ?_
              | refine lss_t rfl rfl (by omega) ?_
              | refine geq_f rfl rfl (by omega) ?_
              | refine neq_f rfl rfl (by omega) ?_
              | refine not_ rfl ?_
              | refine add_in rfl rfl (by omega) ?_
              | refine load_ptr rfl (by decide) rfl (Nat.le_of_ble_eq_true rfl) rfl ?_
              | refine fad_ptr rfl rfl rfl ?_
              | refine iaA_ptr rfl rfl rfl (by omega) rfl ?_
              | refine ext_ rfl rfl ?_)
            refine w_loop ?_
            repeat' (first
              | refine w_seq ?_
              | refine w_ops ?_
              | refine st_nil ?_
              | refine th_n ?_
              | refine th_x ?_
              | refine bk_x ?_
              | refine w_exit ?_
              | refine w_ret ?_
              | refine w_false rfl ?_
              | refine mv_c rfl ?_
              | refine lss_f rfl rfl (by omega) ?_)
            exact fin_r rfl rfl
          · have e : goodC m ⟨g0, q1, s1, b0, b1⟩ = false := by
              rw [Bool.eq_false_iff]; intro h
              have := (goodC_iff.mp h).2.2.2
              rw [if_pos hm2] at this
              rw [this] at t1; cases t1
            rw [e]
            simp only at t2
            rcases t2 with rfl | ⟨rfl, t2⟩ | ⟨rfl, rfl, t2⟩
            all_goals
              repeat' (first
                | refine idA_ rfl rfl ⟨by omega, by omega, Nat.le_of_ble_eq_true rfl⟩ rfl ?_
                | refine call1 rfl c3 ?_
                | refine call1 rfl c5 ?_
                | refine w_seq ?_
                | refine w_ops ?_
                | refine w_opsD0 rfl ?_
                | refine st_nil ?_
                | refine th_n ?_
                | refine th_r ?_
                | refine bk_r ?_
                | refine w_block ?_
                | refine w_skip ?_
                | refine w_ret ?_
                | refine w_true rfl ?_
                | refine w_false rfl ?_
                | refine g_yes rfl ?_
                | refine g_no rfl ?_
                | refine mv_c rfl ?_
                | refine pick_t rfl rfl ?_
                | refine pick_f rfl rfl ?_
                | refine lss_t rfl rfl (by omega) ?_
                | refine geq_f rfl rfl (by omega) ?_
                | refine neq_t rfl rfl (by omega) ?_
                | refine neq_f rfl rfl (by omega) ?_
                | refine not_ rfl ?_
                | refine load_ptr rfl (by decide) rfl (Nat.le_of_ble_eq_true rfl) rfl ?_
                | refine fad_ptr rfl rfl rfl ?_
                | refine iaA_ptr rfl rfl rfl (by omega) rfl ?_
                | refine ext_ rfl rfl ?_)
            all_goals exact fin_r rfl rfl
        · by_cases h1 : s1 = 0
          · cases b1 with
            | nil =>
              rw [goodC_iff.mpr ⟨hm, hnn, p1, by rw [if_neg hm2]; exact ⟨h1, rfl⟩⟩]
              repeat' (first
                | refine idA_ rfl rfl ⟨by omega, by omega, Nat.le_of_ble_eq_true rfl⟩ rfl ?_
                | refine len_sl (es := []) rfl rfl ?_
                | refine w_seq ?_
                | refine w_ops ?_
                | refine st_nil ?_
                | refine th_n ?_
                | refine th_x ?_
                | refine bk_x ?_
                | refine w_block ?_
                | refine w_skip ?_
                | refine w_exit ?_
                | refine w_true rfl ?_
                | refine w_false rfl ?_
                | refine g_yes rfl ?_
                | refine mv_c rfl ?_
                | refine pick_f rfl rfl ?_
                | refine lss_t rfl rfl (by omega) ?_
                | refine gtr_ rfl rfl ?_
                | refine geq_t rfl rfl (by omega) ?_
                | refine neq_f rfl rfl (by omega) ?_
                | refine add_in rfl rfl (by omega) ?_
                | refine load_ptr rfl (by decide) rfl (Nat.le_of_ble_eq_true rfl) rfl ?_
                | refine fad_ptr rfl rfl rfl ?_
                | refine iaA_ptr rfl rfl rfl (by omega) rfl ?_)
              refine w_loop ?_
              repeat' (first
                | refine w_seq ?_
                | refine w_ops ?_
                | refine st_nil ?_
                | refine th_n ?_
                | refine th_x ?_
                | refine bk_x ?_
                | refine w_exit ?_
                | refine w_ret ?_
                | refine w_false rfl ?_
                | refine mv_c rfl ?_
                | refine lss_f rfl rfl (by omega) ?_)
              exact fin_r rfl rfl
            | cons x b1 =>
              have e : goodC m ⟨g0, q1, s1, b0, x :: b1⟩ = false := by
                rw [Bool.eq_false_iff]; intro h
                have := (goodC_iff.mp h).2.2.2
                rw [if_neg hm2] at this
                cases this.2
              rw [e]
              have hp : 0 < (x :: b1).length := by simp
              repeat' (first
                | refine idA_ rfl rfl ⟨by omega, by omega, Nat.le_of_ble_eq_true rfl⟩ rfl ?_
                | refine len_sl rfl (List.length_map _) ?_
                | refine w_seq ?_
                | refine w_ops ?_
                | refine st_nil ?_
                | refine th_n ?_
                | refine th_r ?_
                | refine bk_r ?_
                | refine w_block ?_
                | refine w_skip ?_
                | refine w_ret ?_
                | refine w_true rfl ?_
                | refine g_yes rfl ?_
                | refine mv_c rfl ?_
                | refine pick_f rfl rfl ?_
                | refine lss_t rfl rfl (by omega) ?_
                | refine gtr_t rfl rfl (by omega) ?_
                | refine geq_t rfl rfl (by omega) ?_
                | refine neq_f rfl rfl (by omega) ?_
                | refine load_ptr rfl (by decide) rfl (Nat.le_of_ble_eq_true rfl) rfl ?_
                | refine fad_ptr rfl rfl rfl ?_
                | refine iaA_ptr rfl rfl rfl (by omega) rfl ?_)
              exact fin_r rfl rfl
          · have e : goodC m ⟨g0, q1, s1, b0, b1⟩ = false := by
              rw [Bool.eq_false_iff]; intro h
              have := (goodC_iff.mp h).2.2.2
              rw [if_neg hm2] at this
              exact h1 this.1
            rw [e]
            repeat' (first
              | refine idA_ rfl rfl ⟨by omega, by omega, Nat.le_of_ble_eq_true rfl⟩ rfl ?_
              | refine w_seq ?_
              | refine w_ops ?_
              | refine st_nil ?_
              | refine th_n ?_
              | refine th_r ?_
              | refine bk_r ?_
              | refine w_block ?_
              | refine w_skip ?_
              | refine w_ret ?_
              | refine w_true rfl ?_
              | refine g_no rfl ?_
              | refine mv_c rfl ?_
              | refine pick_t rfl rfl ?_
              | refine lss_t rfl rfl (by omega) ?_
              | refine geq_t rfl rfl (by omega) ?_
              | refine neq_t rfl rfl (by omega) ?_
              | refine load_ptr rfl (by decide) rfl (Nat.le_of_ble_eq_true rfl) rfl ?_
              | refine fad_ptr rfl rfl rfl ?_
              | refine iaA_ptr rfl rfl rfl (by omega) rfl ?_)
            exact fin_r rfl rfl
      · have e : goodC m ⟨n, s0, s1, b0, b1⟩ = false := by
          rw [Bool.eq_false_iff]; intro h
          have := (goodC_iff.mp h).2.2.1
          simp only at this
          rw [this] at p1; cases p1
        rw [e]
        simp only at p2
        rcases p2 with rfl | ⟨rfl, p2⟩ | ⟨rfl, rfl, p2⟩
        all_goals
          repeat' (first
            | refine call1 rfl c1 ?_
            | refine w_seq ?_
            | refine w_ops ?_
            | refine st_nil ?_
            | refine th_n ?_
            | refine w_block ?_
            | refine w_skip ?_
            | refine w_false rfl ?_
            | refine g_yes rfl ?_
            | refine mv_c rfl ?_
            | refine pick_f rfl rfl ?_
            | refine lss_f rfl rfl (by omega) ?_
            | refine gtr_f rfl rfl (by omega) ?_
            | refine not_ rfl ?_
            | refine box_ rfl rfl rfl (fun u => ?_)
            | refine load_ptr rfl (by decide) rfl (Nat.le_of_ble_eq_true rfl) rfl ?_
            | refine fad_ptr rfl rfl rfl ?_)
        all_goals refine w_loop ?_
        all_goals
          unfold b47_0 r47_4 r47_5 r47_6 r47_7 r47_8 r47_9 r47_10 r47_11 r47_12
        all_goals
          repeat' (first
            | refine idA_ rfl rfl ⟨by omega, by omega, Nat.le_of_ble_eq_true rfl⟩ rfl ?_
            | refine call1 rfl c2 ?_
            | refine call1 rfl c4 ?_
            | refine w_seq ?_
            | refine w_ops ?_
            | refine w_opsD0 rfl ?_
            | refine st_nil ?_
            | refine th_n ?_
            | refine th_r ?_
            | refine bk_r ?_
            | refine w_block ?_
            | refine w_skip ?_
            | refine w_ret ?_
            | refine w_true rfl ?_
            | refine w_false rfl ?_
            | refine g_yes rfl ?_
            | refine g_no rfl ?_
            | refine mv_c rfl ?_
            | refine pick_t rfl rfl ?_
            | refine pick_f rfl rfl ?_
            | refine lss_t rfl rfl (by omega) ?_
            | refine geq_f rfl rfl (by omega) ?_
            | refine neq_t rfl rfl (by omega) ?_
            | refine neq_f rfl rfl (by omega) ?_
            | refine not_ rfl ?_
            | refine load_ptr rfl (by decide) rfl (Nat.le_of_ble_eq_true rfl) rfl ?_
            | refine fad_ptr rfl rfl rfl ?_
            | refine iaA_ptr rfl rfl rfl (by omega) rfl ?_
            | refine ext_ rfl rfl ?_)
        all_goals exact fin_r rfl rfl
    · have e : goodC m ⟨n, s0, s1, b0, b1⟩ = false := by
        rw [Bool.eq_false_iff]; intro h
        exact hnn (goodC_iff.mp h).2.1
      rw [e]
      by_cases h1 : n < 1
      · repeat' (first
        | refine call1 rfl c1 ?_
        | refine w_seq ?_
        | refine w_ops ?_
        | refine st_nil ?_
        | refine th_n ?_
        | refine th_r ?_
        | refine w_ret ?_
        | refine w_true rfl ?_
        | refine g_yes rfl ?_
        | refine g_no rfl ?_
        | refine mv_c rfl ?_
        | refine pick_t rfl rfl ?_
        | refine pick_f rfl rfl ?_
        | refine lss_t rfl rfl (by omega) ?_
        | refine not_ rfl ?_
        | refine box_ rfl rfl rfl (fun u => ?_)
        | refine load_ptr rfl (by decide) rfl (Nat.le_of_ble_eq_true rfl) rfl ?_
        | refine fad_ptr rfl rfl rfl ?_)
        exact fin_r rfl rfl
      · repeat' (first
        | refine call1 rfl c1 ?_
        | refine w_seq ?_
        | refine w_ops ?_
        | refine st_nil ?_
        | refine th_n ?_
        | refine th_r ?_
        | refine w_ret ?_
        | refine w_true rfl ?_
        | refine g_yes rfl ?_
        | refine mv_c rfl ?_
        | refine pick_f rfl rfl ?_
        | refine lss_f rfl rfl (by omega) ?_
        | refine gtr_t rfl rfl (by omega) ?_
        | refine not_ rfl ?_
        | refine box_ rfl rfl rfl (fun u => ?_)
        | refine load_ptr rfl (by decide) rfl (Nat.le_of_ble_eq_true rfl) rfl ?_
        | refine fad_ptr rfl rfl rfl ?_)
        exact fin_r rfl rfl
  · rw [decide_eq_false hm] at c1
    have e : goodC m ⟨n, s0, s1, b0, b1⟩ = false := by
      rw [Bool.eq_false_iff]; intro h
      exact hm (goodC_iff.mp h).1
    rw [e]
    repeat' (first
      | refine call1 rfl c1 ?_
      | refine w_seq ?_
      | refine w_ops ?_
      | refine st_nil ?_
      | refine th_n ?_
      | refine th_r ?_
      | refine w_ret ?_
      | refine w_true rfl ?_
      | refine g_no rfl ?_
      | refine mv_c rfl ?_
      | refine pick_t rfl rfl ?_
      | refine not_ rfl ?_
      | refine box_ rfl rfl rfl (fun u => ?_))
    exact fin_r rfl rfl
theorem C_rcGood (m : Int) (c : Cell) (hc : inC 999999 c) : PCallG Try.prog 48 [.c (.int .i64 m), .c (encCell c)] (.c (.bool (goodC m c))) [] := by
  obtain ⟨n, s0, s1, b0, b1⟩ := c
  obtain ⟨hn, hs0, hs1, hr0, hr1, hl0, hl1⟩ := hc
  simp only at hn hs0 hs1 hr0 hr1 hl0 hl1
  show PCallG _ 48 [.c (.int .i64 m), .c (.agg [.int .i64 n, .int .i64 s0, .int .i64 s1, encL b0, encL b1])] _ _
  refine pcallF Try.func48 c48 rfl ?_
  have c2 := C_rGood b0 (by omega)
  have c3 := C_rGood b1 (by omega)
  have c4 := C_rCount b0 (by omega)
  have c5 := C_rCount b1 (by omega)
  have wide : ∀ (b : List Run), b.length ≤ 999999 → ranged b → good b = true → PCallG Try.prog 92 [.c (encL b)] (.c (.agg (cellsV (wsum b)))) [] := fun b hb hr hg => by
    have := C_rWide b (by omega) hr
    obtain ⟨g1, g2, g3⟩ := good_iff.mp hg
    have h0 : cap = 1099511627776 := rfl
    rw [wideS_of b 0 g2 hr (by simp [absI]; omega), Int.zero_add, enc3_of] at this
    exact this
  have c6 := wide b0 hl0 hr0
  have c7 := wide b1 hl1 hr1
  have c8 := C_rOf1 s0 hs0
  have c9 := C_rOf1 s1 hs1
  have e0 := eq3_of (wsum b0) s0
  have e1 := eq3_of (wsum b1) s1
  have key : ∀ (b : List Run) (s : Int), (gM b s n = true ∧ good b = true ∧ wsum b = s ∧ sum b = n) ∨ (gM b s n = false ∧ (good b = false ∨ (good b = true ∧ sum b ≠ n) ∨ (good b = true ∧ sum b = n ∧ wsum b ≠ s))) := fun b s => by
    cases hg : good b with
    | false => exact .inr ⟨by simp [gM, hg], .inl rfl⟩
    | true =>
      by_cases h2 : sum b = n
      · by_cases h1 : wsum b = s
        · exact .inl ⟨by simp [gM, hg, h1, h2], rfl, h1, h2⟩
        · exact .inr ⟨by simp [gM, h1], .inr (.inr ⟨rfl, h2, h1⟩)⟩
      · exact .inr ⟨by simp [gM, h2], .inr (.inl ⟨rfl, h2⟩)⟩
  have k0 := key b0 s0
  have k1 := key b1 s1
  clear key wide
  unfold p48 r48_0 r48_1 r48_2 r48_3 r48_11
  by_cases hm : 1 ≤ m ∧ m ≤ 2
  · by_cases hnn : 1 ≤ n ∧ n ≤ 1099511627776
    · generalize good b0 = x0 at c2 c4 c6 k0
      generalize good b1 = x1 at c3 c5 c7 k1
      generalize sum b0 = g0 at c4 k0
      generalize sum b1 = g1 at c5 k1
      generalize wsum b0 = w0 at c6 e0 k0
      generalize wsum b1 = w1 at c7 e1 k1
      rcases k0 with ⟨p1, rfl, rfl, rfl⟩ | ⟨p1, p2⟩
      · rw [if_pos rfl] at c4
        have c6' := c6 rfl
        rw [decide_eq_true rfl] at e0
        repeat' (first
          | refine w_seq ?_
          | refine w_ops ?_
          | refine st_nil ?_
          | refine th_n ?_
          | refine w_block ?_
          | refine w_skip ?_
          | refine w_false rfl ?_
          | refine g_yes rfl ?_
          | refine mv_c rfl ?_
          | refine pick_f rfl rfl ?_
          | refine lss_f rfl rfl (by omega) ?_
          | refine gtr_f rfl rfl (by omega) ?_
          | refine box_ rfl rfl rfl (fun u => ?_)
          | refine load_ptr rfl (by decide) rfl (Nat.le_of_ble_eq_true rfl) rfl ?_
          | refine fad_ptr rfl rfl rfl ?_)
        refine w_loop ?_
        unfold b48_0 r48_4 r48_5 r48_6 r48_7 r48_8 r48_9 r48_10
        repeat' (first
          | refine call1 rfl c2 ?_
          | refine call1 rfl c4 ?_
          | refine call1 rfl c6' ?_
          | refine call1 rfl c8 ?_
          | refine eqs_f rfl rfl e0 ?_
          | refine w_seq ?_
          | refine w_ops ?_
          | refine w_opsD0 rfl ?_
          | refine st_nil ?_
          | refine th_n ?_
          | refine bk_n ?_
          | refine w_block ?_
          | refine w_skip ?_
          | refine w_true rfl ?_
          | refine w_false rfl ?_
          | refine g_yes rfl ?_
          | refine mv_c rfl ?_
          | refine pick_f rfl rfl ?_
          | refine lss_t rfl rfl (by omega) ?_
          | refine geq_f rfl rfl (by omega) ?_
          | refine neq_f rfl rfl (by omega) ?_
          | refine not_ rfl ?_
          | refine add_in rfl rfl (by omega) ?_
          | refine load_ptr rfl (by decide) rfl (Nat.le_of_ble_eq_true rfl) rfl ?_
          | refine fad_ptr rfl rfl rfl ?_
          | refine iaA_ptr rfl rfl rfl (by omega) rfl ?_)
        refine w_loop ?_
        by_cases hm2 : m = 2
        · rcases k1 with ⟨t1, rfl, rfl, rfl⟩ | ⟨t1, t2⟩
          · rw [if_pos rfl] at c5
            have c7' := c7 rfl
            rw [decide_eq_true rfl] at e1
            rw [goodC_iff.mpr ⟨hm, hnn, p1, by rw [if_pos hm2]; exact t1⟩]
            repeat' (first
              | refine call1 rfl c3 ?_
              | refine call1 rfl c5 ?_
              | refine call1 rfl c7' ?_
              | refine call1 rfl c9 ?_
              | refine eqs_f rfl rfl e1 ?_
              | refine w_seq ?_
              | refine w_ops ?_
              | refine w_opsD0 rfl ?_
              | refine st_nil ?_
              | refine th_n ?_
              | refine bk_n ?_
              | refine w_block ?_
              | refine w_skip ?_
              | refine w_true rfl ?_
              | refine w_false rfl ?_
              | refine g_yes rfl ?_
              | refine mv_c rfl ?_
              | refine pick_f rfl rfl ?_
              | refine lss_t rfl rfl (by omega) ?_
              | refine geq_f rfl rfl (by omega) ?_
              | refine neq_f rfl rfl (by omega) ?_
              | refine not_ rfl ?_
              | refine add_in rfl rfl (by omega) ?_
              | refine load_ptr rfl (by decide) rfl (Nat.le_of_ble_eq_true rfl) rfl ?_
              | refine fad_ptr rfl rfl rfl ?_
              | refine iaA_ptr rfl rfl rfl (by omega) rfl ?_)
            refine w_loop ?_
            repeat' (first
              | refine w_seq ?_
              | refine w_ops ?_
              | refine st_nil ?_
              | refine th_n ?_
              | refine th_x ?_
              | refine bk_x ?_
              | refine w_exit ?_
              | refine w_ret ?_
              | refine w_false rfl ?_
              | refine mv_c rfl ?_
              | refine lss_f rfl rfl (by omega) ?_)
            exact fin_r rfl rfl
          · have e : goodC m ⟨g0, w0, s1, b0, b1⟩ = false := by
              rw [Bool.eq_false_iff]; intro h
              have := (goodC_iff.mp h).2.2.2
              rw [if_pos hm2] at this
              rw [this] at t1; cases t1
            rw [e]
            rcases t2 with rfl | ⟨rfl, t2⟩ | ⟨rfl, rfl, t2⟩
            · repeat' (first
              | refine call1 rfl c3 ?_
              | refine w_seq ?_
              | refine w_ops ?_
              | refine w_opsD0 rfl ?_
              | refine st_nil ?_
              | refine th_n ?_
              | refine th_r ?_
              | refine bk_r ?_
              | refine w_block ?_
              | refine w_skip ?_
              | refine w_ret ?_
              | refine w_true rfl ?_
              | refine w_false rfl ?_
              | refine g_no rfl ?_
              | refine mv_c rfl ?_
              | refine pick_t rfl rfl ?_
              | refine lss_t rfl rfl (by omega) ?_
              | refine geq_f rfl rfl (by omega) ?_
              | refine not_ rfl ?_
              | refine load_ptr rfl (by decide) rfl (Nat.le_of_ble_eq_true rfl) rfl ?_
              | refine fad_ptr rfl rfl rfl ?_
              | refine iaA_ptr rfl rfl rfl (by omega) rfl ?_)
              exact fin_r rfl rfl
            · rw [if_pos rfl] at c5
              repeat' (first
                | refine call1 rfl c3 ?_
                | refine call1 rfl c5 ?_
                | refine w_seq ?_
                | refine w_ops ?_
                | refine w_opsD0 rfl ?_
                | refine st_nil ?_
                | refine th_n ?_
                | refine th_r ?_
                | refine bk_r ?_
                | refine w_block ?_
                | refine w_skip ?_
                | refine w_ret ?_
                | refine w_true rfl ?_
                | refine w_false rfl ?_
                | refine g_yes rfl ?_
                | refine g_no rfl ?_
                | refine mv_c rfl ?_
                | refine pick_t rfl rfl ?_
                | refine pick_f rfl rfl ?_
                | refine lss_t rfl rfl (by omega) ?_
                | refine geq_f rfl rfl (by omega) ?_
                | refine neq_t rfl rfl (by omega) ?_
                | refine not_ rfl ?_
                | refine load_ptr rfl (by decide) rfl (Nat.le_of_ble_eq_true rfl) rfl ?_
                | refine fad_ptr rfl rfl rfl ?_
                | refine iaA_ptr rfl rfl rfl (by omega) rfl ?_)
              exact fin_r rfl rfl
            · rw [if_pos rfl] at c5
              have c7' := c7 rfl
              rw [decide_eq_false t2] at e1
              repeat' (first
                | refine call1 rfl c3 ?_
                | refine call1 rfl c5 ?_
                | refine call1 rfl c7' ?_
                | refine call1 rfl c9 ?_
                | refine eqs_f rfl rfl e1 ?_
                | refine w_seq ?_
                | refine w_ops ?_
                | refine w_opsD0 rfl ?_
                | refine st_nil ?_
                | refine th_n ?_
                | refine th_r ?_
                | refine bk_r ?_
                | refine w_block ?_
                | refine w_skip ?_
                | refine w_ret ?_
                | refine w_true rfl ?_
                | refine w_false rfl ?_
                | refine g_yes rfl ?_
                | refine mv_c rfl ?_
                | refine pick_f rfl rfl ?_
                | refine lss_t rfl rfl (by omega) ?_
                | refine geq_f rfl rfl (by omega) ?_
                | refine neq_f rfl rfl (by omega) ?_
                | refine not_ rfl ?_
                | refine load_ptr rfl (by decide) rfl (Nat.le_of_ble_eq_true rfl) rfl ?_
                | refine fad_ptr rfl rfl rfl ?_
                | refine iaA_ptr rfl rfl rfl (by omega) rfl ?_)
              exact fin_r rfl rfl
        · by_cases h1 : s1 = 0
          · cases b1 with
            | nil =>
              rw [goodC_iff.mpr ⟨hm, hnn, p1, by rw [if_neg hm2]; exact ⟨h1, rfl⟩⟩]
              repeat' (first
                | refine len_sl (es := []) rfl rfl ?_
                | refine w_seq ?_
                | refine w_ops ?_
                | refine st_nil ?_
                | refine th_n ?_
                | refine bk_n ?_
                | refine w_block ?_
                | refine w_skip ?_
                | refine w_true rfl ?_
                | refine w_false rfl ?_
                | refine g_yes rfl ?_
                | refine mv_c rfl ?_
                | refine pick_f rfl rfl ?_
                | refine lss_t rfl rfl (by omega) ?_
                | refine gtr_ rfl rfl ?_
                | refine geq_t rfl rfl (by omega) ?_
                | refine neq_f rfl rfl (by omega) ?_
                | refine add_in rfl rfl (by omega) ?_
                | refine load_ptr rfl (by decide) rfl (Nat.le_of_ble_eq_true rfl) rfl ?_
                | refine fad_ptr rfl rfl rfl ?_
                | refine iaA_ptr rfl rfl rfl (by omega) rfl ?_)
              refine w_loop ?_
              repeat' (first
                | refine w_seq ?_
                | refine w_ops ?_
                | refine st_nil ?_
                | refine th_n ?_
                | refine th_x ?_
                | refine bk_x ?_
                | refine w_exit ?_
                | refine w_ret ?_
                | refine w_false rfl ?_
                | refine mv_c rfl ?_
                | refine lss_f rfl rfl (by omega) ?_)
              exact fin_r rfl rfl
            | cons x b1 =>
              have e : goodC m ⟨g0, w0, s1, b0, x :: b1⟩ = false := by
                rw [Bool.eq_false_iff]; intro h
                have := (goodC_iff.mp h).2.2.2
                rw [if_neg hm2] at this
                cases this.2
              rw [e]
              have hp : 0 < (x :: b1).length := by simp
              repeat' (first
                | refine len_sl rfl (List.length_map _) ?_
                | refine w_seq ?_
                | refine w_ops ?_
                | refine st_nil ?_
                | refine th_n ?_
                | refine th_r ?_
                | refine bk_r ?_
                | refine w_block ?_
                | refine w_skip ?_
                | refine w_ret ?_
                | refine w_true rfl ?_
                | refine g_yes rfl ?_
                | refine mv_c rfl ?_
                | refine pick_f rfl rfl ?_
                | refine lss_t rfl rfl (by omega) ?_
                | refine gtr_t rfl rfl (by omega) ?_
                | refine geq_t rfl rfl (by omega) ?_
                | refine neq_f rfl rfl (by omega) ?_
                | refine load_ptr rfl (by decide) rfl (Nat.le_of_ble_eq_true rfl) rfl ?_
                | refine fad_ptr rfl rfl rfl ?_
                | refine iaA_ptr rfl rfl rfl (by omega) rfl ?_)
              exact fin_r rfl rfl
          · have e : goodC m ⟨g0, w0, s1, b0, b1⟩ = false := by
              rw [Bool.eq_false_iff]; intro h
              have := (goodC_iff.mp h).2.2.2
              rw [if_neg hm2] at this
              exact h1 this.1
            rw [e]
            repeat' (first
              | refine w_seq ?_
              | refine w_ops ?_
              | refine st_nil ?_
              | refine th_n ?_
              | refine th_r ?_
              | refine bk_r ?_
              | refine w_block ?_
              | refine w_skip ?_
              | refine w_ret ?_
              | refine w_true rfl ?_
              | refine g_no rfl ?_
              | refine mv_c rfl ?_
              | refine pick_t rfl rfl ?_
              | refine lss_t rfl rfl (by omega) ?_
              | refine geq_t rfl rfl (by omega) ?_
              | refine neq_t rfl rfl (by omega) ?_
              | refine load_ptr rfl (by decide) rfl (Nat.le_of_ble_eq_true rfl) rfl ?_
              | refine fad_ptr rfl rfl rfl ?_
              | refine iaA_ptr rfl rfl rfl (by omega) rfl ?_)
            exact fin_r rfl rfl
      · have e : goodC m ⟨n, s0, s1, b0, b1⟩ = false := by
          rw [Bool.eq_false_iff]; intro h
          have := (goodC_iff.mp h).2.2.1
          simp only at this
          rw [this] at p1; cases p1
        rw [e]
        repeat' (first
          | refine w_seq ?_
          | refine w_ops ?_
          | refine st_nil ?_
          | refine th_n ?_
          | refine w_block ?_
          | refine w_skip ?_
          | refine w_false rfl ?_
          | refine g_yes rfl ?_
          | refine mv_c rfl ?_
          | refine pick_f rfl rfl ?_
          | refine lss_f rfl rfl (by omega) ?_
          | refine gtr_f rfl rfl (by omega) ?_
          | refine box_ rfl rfl rfl (fun u => ?_)
          | refine load_ptr rfl (by decide) rfl (Nat.le_of_ble_eq_true rfl) rfl ?_
          | refine fad_ptr rfl rfl rfl ?_)
        refine w_loop ?_
        unfold b48_0 r48_4 r48_5 r48_6 r48_7 r48_8 r48_9 r48_10
        rcases p2 with rfl | ⟨rfl, p2⟩ | ⟨rfl, rfl, p2⟩
        · repeat' (first
          | refine call1 rfl c2 ?_
          | refine w_seq ?_
          | refine w_ops ?_
          | refine w_opsD0 rfl ?_
          | refine st_nil ?_
          | refine th_n ?_
          | refine th_r ?_
          | refine bk_r ?_
          | refine w_block ?_
          | refine w_skip ?_
          | refine w_ret ?_
          | refine w_true rfl ?_
          | refine w_false rfl ?_
          | refine g_no rfl ?_
          | refine mv_c rfl ?_
          | refine pick_t rfl rfl ?_
          | refine lss_t rfl rfl (by omega) ?_
          | refine geq_f rfl rfl (by omega) ?_
          | refine not_ rfl ?_
          | refine load_ptr rfl (by decide) rfl (Nat.le_of_ble_eq_true rfl) rfl ?_
          | refine fad_ptr rfl rfl rfl ?_
          | refine iaA_ptr rfl rfl rfl (by omega) rfl ?_)
          exact fin_r rfl rfl
        · rw [if_pos rfl] at c4
          repeat' (first
            | refine call1 rfl c2 ?_
            | refine call1 rfl c4 ?_
            | refine w_seq ?_
            | refine w_ops ?_
            | refine w_opsD0 rfl ?_
            | refine st_nil ?_
            | refine th_n ?_
            | refine th_r ?_
            | refine bk_r ?_
            | refine w_block ?_
            | refine w_skip ?_
            | refine w_ret ?_
            | refine w_true rfl ?_
            | refine w_false rfl ?_
            | refine g_yes rfl ?_
            | refine g_no rfl ?_
            | refine mv_c rfl ?_
            | refine pick_t rfl rfl ?_
            | refine pick_f rfl rfl ?_
            | refine lss_t rfl rfl (by omega) ?_
            | refine geq_f rfl rfl (by omega) ?_
            | refine neq_t rfl rfl (by omega) ?_
            | refine not_ rfl ?_
            | refine load_ptr rfl (by decide) rfl (Nat.le_of_ble_eq_true rfl) rfl ?_
            | refine fad_ptr rfl rfl rfl ?_
            | refine iaA_ptr rfl rfl rfl (by omega) rfl ?_)
          exact fin_r rfl rfl
        · rw [if_pos rfl] at c4
          have c6' := c6 rfl
          rw [decide_eq_false p2] at e0
          repeat' (first
            | refine call1 rfl c2 ?_
            | refine call1 rfl c4 ?_
            | refine call1 rfl c6' ?_
            | refine call1 rfl c8 ?_
            | refine eqs_f rfl rfl e0 ?_
            | refine w_seq ?_
            | refine w_ops ?_
            | refine w_opsD0 rfl ?_
            | refine st_nil ?_
            | refine th_n ?_
            | refine th_r ?_
            | refine bk_r ?_
            | refine w_block ?_
            | refine w_skip ?_
            | refine w_ret ?_
            | refine w_true rfl ?_
            | refine w_false rfl ?_
            | refine g_yes rfl ?_
            | refine mv_c rfl ?_
            | refine pick_f rfl rfl ?_
            | refine lss_t rfl rfl (by omega) ?_
            | refine geq_f rfl rfl (by omega) ?_
            | refine neq_f rfl rfl (by omega) ?_
            | refine not_ rfl ?_
            | refine load_ptr rfl (by decide) rfl (Nat.le_of_ble_eq_true rfl) rfl ?_
            | refine fad_ptr rfl rfl rfl ?_
            | refine iaA_ptr rfl rfl rfl (by omega) rfl ?_)
          exact fin_r rfl rfl
    · have e : goodC m ⟨n, s0, s1, b0, b1⟩ = false := by
        rw [Bool.eq_false_iff]; intro h
        exact hnn (goodC_iff.mp h).2.1
      rw [e]
      by_cases h1 : n < 1
      · repeat' (first
        | refine w_seq ?_
        | refine w_ops ?_
        | refine st_nil ?_
        | refine th_n ?_
        | refine th_r ?_
        | refine w_ret ?_
        | refine w_true rfl ?_
        | refine g_yes rfl ?_
        | refine g_no rfl ?_
        | refine mv_c rfl ?_
        | refine pick_t rfl rfl ?_
        | refine pick_f rfl rfl ?_
        | refine lss_t rfl rfl (by omega) ?_
        | refine lss_f rfl rfl (by omega) ?_
        | refine gtr_f rfl rfl (by omega) ?_
        | refine box_ rfl rfl rfl (fun u => ?_)
        | refine load_ptr rfl (by decide) rfl (Nat.le_of_ble_eq_true rfl) rfl ?_
        | refine fad_ptr rfl rfl rfl ?_)
        exact fin_r rfl rfl
      · repeat' (first
        | refine w_seq ?_
        | refine w_ops ?_
        | refine st_nil ?_
        | refine th_n ?_
        | refine th_r ?_
        | refine w_ret ?_
        | refine w_true rfl ?_
        | refine g_yes rfl ?_
        | refine mv_c rfl ?_
        | refine pick_f rfl rfl ?_
        | refine lss_f rfl rfl (by omega) ?_
        | refine gtr_t rfl rfl (by omega) ?_
        | refine gtr_f rfl rfl (by omega) ?_
        | refine box_ rfl rfl rfl (fun u => ?_)
        | refine load_ptr rfl (by decide) rfl (Nat.le_of_ble_eq_true rfl) rfl ?_
        | refine fad_ptr rfl rfl rfl ?_)
        exact fin_r rfl rfl
  · have e : goodC m ⟨n, s0, s1, b0, b1⟩ = false := by
      rw [Bool.eq_false_iff]; intro h
      exact hm (goodC_iff.mp h).1
    rw [e]
    by_cases h1 : m < 1
    · repeat' (first
      | refine w_seq ?_
      | refine w_ops ?_
      | refine st_nil ?_
      | refine th_n ?_
      | refine th_r ?_
      | refine w_ret ?_
      | refine w_true rfl ?_
      | refine g_no rfl ?_
      | refine mv_c rfl ?_
      | refine pick_t rfl rfl ?_
      | refine lss_t rfl rfl (by omega) ?_
      | refine box_ rfl rfl rfl (fun u => ?_))
      exact fin_r rfl rfl
    · repeat' (first
      | refine w_seq ?_
      | refine w_ops ?_
      | refine st_nil ?_
      | refine th_n ?_
      | refine th_r ?_
      | refine w_ret ?_
      | refine w_true rfl ?_
      | refine g_yes rfl ?_
      | refine g_no rfl ?_
      | refine mv_c rfl ?_
      | refine pick_t rfl rfl ?_
      | refine pick_f rfl rfl ?_
      | refine lss_f rfl rfl (by omega) ?_
      | refine gtr_t rfl rfl (by omega) ?_
      | refine box_ rfl rfl rfl (fun u => ?_))
      exact fin_r rfl rfl
end Go.Proofs.Ytcmejdkjfekoeaa
namespace Go.Proofs.Ytcmejdkjfekoeaa
open Go.Pl Go.Bag
set_option maxHeartbeats 16000000
set_option maxRecDepth 100000
theorem joinC_no {m : Int} {a b : Cell} (h : ¬ (goodC m a = true ∧ goodC m b = true ∧ a.n + b.n ≤ 1099511627776 ∧ in64 (a.s0 + b.s0) ∧ (m = 2 → in64 (a.s1 + b.s1)))) : joinC m a b = (zeroC, false) := by
  unfold joinC; rw [if_neg h]
theorem C_cJoin (m : Int) (a b : Cell) (ha : inC 1000000 a) (hb : inC 1000000 b) : PCallG Try.prog 51 [.c (.int .i64 m), .c (encCell a), .c (encCell b)] (.c (.tup [encCell (joinC m a b).1, .bool (joinC m a b).2])) [] := by
  have c1 := C_cGood m a ha
  have c2 := C_cGood m b hb
  obtain ⟨n, s0, s1, b0, b1⟩ := a
  obtain ⟨k, t0, t1, d0, d1⟩ := b
  obtain ⟨hn, hs0, hs1, hr0, hr1, hl0, hl1⟩ := ha
  obtain ⟨in', it0, it1, ir0, ir1, il0, il1⟩ := hb
  simp only at hn hs0 hs1 hr0 hr1 hl0 hl1 in' it0 it1 ir0 ir1 il0 il1
  obtain ⟨hn1, hn2⟩ := hn
  obtain ⟨in1, in2⟩ := in'
  have c3 := C_Join b0 d0 (by omega) (by omega)
  have c4 := C_Join b1 d1 (by omega) (by omega)
  have c5 := C_Add s0 t0 hs0 it0
  have c6 := C_Add s1 t1 hs1 it1
  show PCallG _ 51 [.c (.int .i64 m), .c (.agg [.int .i64 n, .int .i64 s0, .int .i64 s1, encL b0, encL b1]), .c (.agg [.int .i64 k, .int .i64 t0, .int .i64 t1, encL d0, encL d1])] _ _
  unfold encCell encC at c1 c2
  refine pcallF Try.func51 c51 rfl ?_
  unfold p51 r51_0 r51_1 r51_2 r51_3 r51_4 r51_13
  cases ga : goodC m ⟨n, s0, s1, b0, b1⟩ with
  | false =>
    rw [ga] at c1
    rw [joinC_no (m := m) (a := ⟨n, s0, s1, b0, b1⟩) (b := ⟨k, t0, t1, d0, d1⟩) (fun h => by rw [ga] at h; cases h.1)]
    repeat' (first
      | refine call2 rfl rfl c1 ?_
      | refine w_seq ?_
      | refine w_ops ?_
      | refine st_nil ?_
      | refine th_n ?_
      | refine th_r ?_
      | refine w_ret ?_
      | refine w_true rfl ?_
      | refine g_no rfl ?_
      | refine mv_c rfl ?_
      | refine pick_t rfl rfl ?_
      | refine not_ rfl ?_
      | refine alloc_ (fun u => ?_)
      | refine box_ rfl rfl rfl (fun u => ?_)
      | refine build_ rfl rfl ?_
      | refine load_ptr rfl (by decide) rfl (Nat.le_of_ble_eq_true rfl) rfl ?_
      | refine store_ptr rfl rfl (by decide) rfl rfl (Nat.le_of_ble_eq_true rfl) rfl ?_)
    exact fin_r (rv_cell rfl rfl rfl rfl (rv_t rfl rv_nil)) rfl
  | true =>
    rw [ga] at c1
    cases gb : goodC m ⟨k, t0, t1, d0, d1⟩ with
    | false =>
      rw [gb] at c2
      rw [joinC_no (m := m) (a := ⟨n, s0, s1, b0, b1⟩) (b := ⟨k, t0, t1, d0, d1⟩) (fun h => by rw [gb] at h; cases h.2.1)]
      repeat' (first
        | refine call2 rfl rfl c1 ?_
        | refine call2 rfl rfl c2 ?_
        | refine w_seq ?_
        | refine w_ops ?_
        | refine st_nil ?_
        | refine th_n ?_
        | refine th_r ?_
        | refine w_ret ?_
        | refine w_true rfl ?_
        | refine g_yes rfl ?_
        | refine g_no rfl ?_
        | refine mv_c rfl ?_
        | refine pick_t rfl rfl ?_
        | refine pick_f rfl rfl ?_
        | refine not_ rfl ?_
        | refine alloc_ (fun u => ?_)
        | refine box_ rfl rfl rfl (fun u => ?_)
        | refine build_ rfl rfl ?_
        | refine load_ptr rfl (by decide) rfl (Nat.le_of_ble_eq_true rfl) rfl ?_
        | refine store_ptr rfl rfl (by decide) rfl rfl (Nat.le_of_ble_eq_true rfl) rfl ?_)
      exact fin_r (rv_cell rfl rfl rfl rfl (rv_t rfl rv_nil)) rfl
    | true =>
      rw [gb] at c2
      obtain ⟨hm, ⟨g1, g2⟩, g3, g4⟩ := goodC_iff.mp ga
      obtain ⟨_, ⟨i1, i2⟩, i3, i4⟩ := goodC_iff.mp gb
      simp only at g1 g2 g3 g4 i1 i2 i3 i4
      obtain ⟨p1, p2, p3⟩ := gM_iff.mp g3
      obtain ⟨q1, q2, q3⟩ := gM_iff.mp i3
      by_cases hs : n + k ≤ 1099511627776
      · have j0 := (join_sum p1 q1 (by omega)).2.2.2
        rw [j0] at c3
        by_cases f0 : I64 (s0 + t0)
        · rw [if_pos f0] at c5
          by_cases hm2 : m = 2
          · rw [if_pos hm2] at g4 i4
            obtain ⟨p4, p5, p6⟩ := gM_iff.mp g4
            obtain ⟨q4, q5, q6⟩ := gM_iff.mp i4
            have j1 := (join_sum p4 q4 (by omega)).2.2.2
            rw [j1] at c4
            by_cases f1 : I64 (s1 + t1)
            · rw [if_pos f1] at c6
              rw [show joinC m ⟨n, s0, s1, b0, b1⟩ ⟨k, t0, t1, d0, d1⟩ = (⟨n + k, s0 + t0, s1 + t1, (join b0 d0).1, (join b1 d1).1⟩, true) by
                unfold joinC; rw [if_pos ⟨ga, gb, hs, f0, fun _ => f1⟩]; simp [hm2]]
              generalize (join b0 d0).1 = o0 at c3
              generalize (join b1 d1).1 = o1 at c4
              repeat' (first
                | refine call2 rfl rfl c1 ?_
                | refine call2 rfl rfl c2 ?_
                | refine w_seq ?_
                | refine w_ops ?_
                | refine st_nil ?_
                | refine th_n ?_
                | refine w_block ?_
                | refine w_skip ?_
                | refine w_false rfl ?_
                | refine g_yes rfl ?_
                | refine mv_c rfl ?_
                | refine pick_f rfl rfl ?_
                | refine gtr_f rfl rfl (by omega) ?_
                | refine not_ rfl ?_
                | refine add_in rfl rfl (by omega) ?_
                | refine sub_in rfl rfl (by omega) ?_
                | refine alloc_ (fun u => ?_)
                | refine box_ rfl rfl rfl (fun u => ?_)
                | refine build_ rfl rfl ?_
                | refine load_ptr rfl (by decide) rfl (Nat.le_of_ble_eq_true rfl) rfl ?_
                | refine store_ptr rfl rfl (by decide) rfl rfl (Nat.le_of_ble_eq_true rfl) rfl ?_
                | refine fad_ptr rfl rfl rfl ?_)
              refine w_loop ?_
              unfold b51_0 r51_5 r51_6 r51_7 r51_8 r51_9 r51_10 r51_11 r51_12
              repeat' (first
                | refine call2 rfl rfl c3 ?_
                | refine call2 rfl rfl c5 ?_
                | refine w_seq ?_
                | refine w_ops ?_
                | refine w_opsD0 rfl ?_
                | refine st_nil ?_
                | refine th_n ?_
                | refine bk_n ?_
                | refine w_block ?_
                | refine w_skip ?_
                | refine w_true rfl ?_
                | refine w_false rfl ?_
                | refine g_yes rfl ?_
                | refine mv_c rfl ?_
                | refine pick_f rfl rfl ?_
                | refine lss_t rfl rfl (by omega) ?_
                | refine not_ rfl ?_
                | refine add_in rfl rfl (by omega) ?_
                | refine load_ptr rfl (by decide) rfl (Nat.le_of_ble_eq_true rfl) rfl ?_
                | refine store_ptr rfl rfl (by decide) rfl rfl (Nat.le_of_ble_eq_true rfl) rfl ?_
                | refine fad_ptr rfl rfl rfl ?_
                | refine iaA_ptr rfl rfl rfl (by omega) rfl ?_
                | refine ext_ rfl rfl ?_)
              refine w_loop ?_
              repeat' (first
                | refine call2 rfl rfl c4 ?_
                | refine call2 rfl rfl c6 ?_
                | refine w_seq ?_
                | refine w_ops ?_
                | refine w_opsD0 rfl ?_
                | refine st_nil ?_
                | refine th_n ?_
                | refine bk_n ?_
                | refine w_block ?_
                | refine w_skip ?_
                | refine w_true rfl ?_
                | refine w_false rfl ?_
                | refine g_yes rfl ?_
                | refine mv_c rfl ?_
                | refine pick_f rfl rfl ?_
                | refine lss_t rfl rfl (by omega) ?_
                | refine not_ rfl ?_
                | refine add_in rfl rfl (by omega) ?_
                | refine load_ptr rfl (by decide) rfl (Nat.le_of_ble_eq_true rfl) rfl ?_
                | refine store_ptr rfl rfl (by decide) rfl rfl (Nat.le_of_ble_eq_true rfl) rfl ?_
                | refine fad_ptr rfl rfl rfl ?_
                | refine iaA_ptr rfl rfl rfl (by omega) rfl ?_
                | refine ext_ rfl rfl ?_)
              refine w_loop ?_
              repeat' (first
                | refine w_seq ?_
                | refine w_ops ?_
                | refine st_nil ?_
                | refine th_n ?_
                | refine th_x ?_
                | refine bk_x ?_
                | refine w_exit ?_
                | refine w_ret ?_
                | refine w_false rfl ?_
                | refine mv_c rfl ?_
                | refine lss_f rfl rfl (by omega) ?_
                | refine load_ptr rfl (by decide) rfl (Nat.le_of_ble_eq_true rfl) rfl ?_
                | refine store_ptr rfl rfl (by decide) rfl rfl (Nat.le_of_ble_eq_true rfl) rfl ?_)
              exact fin_r (rv_cell rfl rfl rfl rfl (rv_t rfl rv_nil)) rfl
            · rw [if_neg f1] at c6
              rw [joinC_no (m := m) (a := ⟨n, s0, s1, b0, b1⟩) (b := ⟨k, t0, t1, d0, d1⟩) (fun h => f1 (h.2.2.2.2 hm2))]
              generalize (join b0 d0).1 = o0 at c3
              generalize (join b1 d1).1 = o1 at c4
              repeat' (first
                | refine call2 rfl rfl c1 ?_
                | refine call2 rfl rfl c2 ?_
                | refine w_seq ?_
                | refine w_ops ?_
                | refine st_nil ?_
                | refine th_n ?_
                | refine w_block ?_
                | refine w_skip ?_
                | refine w_false rfl ?_
                | refine g_yes rfl ?_
                | refine mv_c rfl ?_
                | refine pick_f rfl rfl ?_
                | refine gtr_f rfl rfl (by omega) ?_
                | refine not_ rfl ?_
                | refine add_in rfl rfl (by omega) ?_
                | refine sub_in rfl rfl (by omega) ?_
                | refine alloc_ (fun u => ?_)
                | refine box_ rfl rfl rfl (fun u => ?_)
                | refine build_ rfl rfl ?_
                | refine load_ptr rfl (by decide) rfl (Nat.le_of_ble_eq_true rfl) rfl ?_
                | refine store_ptr rfl rfl (by decide) rfl rfl (Nat.le_of_ble_eq_true rfl) rfl ?_
                | refine fad_ptr rfl rfl rfl ?_)
              refine w_loop ?_
              unfold b51_0 r51_5 r51_6 r51_7 r51_8 r51_9 r51_10 r51_11 r51_12
              repeat' (first
                | refine call2 rfl rfl c3 ?_
                | refine call2 rfl rfl c5 ?_
                | refine w_seq ?_
                | refine w_ops ?_
                | refine w_opsD0 rfl ?_
                | refine st_nil ?_
                | refine th_n ?_
                | refine bk_n ?_
                | refine w_block ?_
                | refine w_skip ?_
                | refine w_true rfl ?_
                | refine w_false rfl ?_
                | refine g_yes rfl ?_
                | refine mv_c rfl ?_
                | refine pick_f rfl rfl ?_
                | refine lss_t rfl rfl (by omega) ?_
                | refine not_ rfl ?_
                | refine add_in rfl rfl (by omega) ?_
                | refine load_ptr rfl (by decide) rfl (Nat.le_of_ble_eq_true rfl) rfl ?_
                | refine store_ptr rfl rfl (by decide) rfl rfl (Nat.le_of_ble_eq_true rfl) rfl ?_
                | refine fad_ptr rfl rfl rfl ?_
                | refine iaA_ptr rfl rfl rfl (by omega) rfl ?_
                | refine ext_ rfl rfl ?_)
              refine w_loop ?_
              repeat' (first
                | refine call2 rfl rfl c4 ?_
                | refine call2 rfl rfl c6 ?_
                | refine w_seq ?_
                | refine w_ops ?_
                | refine w_opsD0 rfl ?_
                | refine st_nil ?_
                | refine th_n ?_
                | refine th_r ?_
                | refine bk_r ?_
                | refine w_block ?_
                | refine w_skip ?_
                | refine w_ret ?_
                | refine w_true rfl ?_
                | refine g_yes rfl ?_
                | refine mv_c rfl ?_
                | refine pick_f rfl rfl ?_
                | refine lss_t rfl rfl (by omega) ?_
                | refine not_ rfl ?_
                | refine build_ rfl rfl ?_
                | refine load_ptr rfl (by decide) rfl (Nat.le_of_ble_eq_true rfl) rfl ?_
                | refine store_ptr rfl rfl (by decide) rfl rfl (Nat.le_of_ble_eq_true rfl) rfl ?_
                | refine fad_ptr rfl rfl rfl ?_
                | refine iaA_ptr rfl rfl rfl (by omega) rfl ?_
                | refine ext_ rfl rfl ?_)
              exact fin_r (rv_cell rfl rfl rfl rfl (rv_t rfl rv_nil)) rfl
          · rw [show joinC m ⟨n, s0, s1, b0, b1⟩ ⟨k, t0, t1, d0, d1⟩ = (⟨n + k, s0 + t0, 0, (join b0 d0).1, []⟩, true) by
              unfold joinC; rw [if_pos ⟨ga, gb, hs, f0, fun h => absurd h hm2⟩]; simp [hm2]]
            generalize (join b0 d0).1 = o0 at c3
            repeat' (first
              | refine call2 rfl rfl c1 ?_
              | refine call2 rfl rfl c2 ?_
              | refine w_seq ?_
              | refine w_ops ?_
              | refine st_nil ?_
              | refine th_n ?_
              | refine w_block ?_
              | refine w_skip ?_
              | refine w_false rfl ?_
              | refine g_yes rfl ?_
              | refine mv_c rfl ?_
              | refine pick_f rfl rfl ?_
              | refine gtr_f rfl rfl (by omega) ?_
              | refine not_ rfl ?_
              | refine add_in rfl rfl (by omega) ?_
              | refine sub_in rfl rfl (by omega) ?_
              | refine alloc_ (fun u => ?_)
              | refine box_ rfl rfl rfl (fun u => ?_)
              | refine build_ rfl rfl ?_
              | refine load_ptr rfl (by decide) rfl (Nat.le_of_ble_eq_true rfl) rfl ?_
              | refine store_ptr rfl rfl (by decide) rfl rfl (Nat.le_of_ble_eq_true rfl) rfl ?_
              | refine fad_ptr rfl rfl rfl ?_)
            refine w_loop ?_
            unfold b51_0 r51_5 r51_6 r51_7 r51_8 r51_9 r51_10 r51_11 r51_12
            repeat' (first
              | refine call2 rfl rfl c3 ?_
              | refine call2 rfl rfl c5 ?_
              | refine w_seq ?_
              | refine w_ops ?_
              | refine w_opsD0 rfl ?_
              | refine st_nil ?_
              | refine th_n ?_
              | refine bk_n ?_
              | refine w_block ?_
              | refine w_skip ?_
              | refine w_true rfl ?_
              | refine w_false rfl ?_
              | refine g_yes rfl ?_
              | refine mv_c rfl ?_
              | refine pick_f rfl rfl ?_
              | refine lss_t rfl rfl (by omega) ?_
              | refine not_ rfl ?_
              | refine add_in rfl rfl (by omega) ?_
              | refine load_ptr rfl (by decide) rfl (Nat.le_of_ble_eq_true rfl) rfl ?_
              | refine store_ptr rfl rfl (by decide) rfl rfl (Nat.le_of_ble_eq_true rfl) rfl ?_
              | refine fad_ptr rfl rfl rfl ?_
              | refine iaA_ptr rfl rfl rfl (by omega) rfl ?_
              | refine ext_ rfl rfl ?_)
            refine w_loop ?_
            repeat' (first
              | refine w_seq ?_
              | refine w_ops ?_
              | refine st_nil ?_
              | refine th_n ?_
              | refine th_x ?_
              | refine bk_x ?_
              | refine w_exit ?_
              | refine w_ret ?_
              | refine w_false rfl ?_
              | refine mv_c rfl ?_
              | refine lss_f rfl rfl (by omega) ?_
              | refine load_ptr rfl (by decide) rfl (Nat.le_of_ble_eq_true rfl) rfl ?_
              | refine store_ptr rfl rfl (by decide) rfl rfl (Nat.le_of_ble_eq_true rfl) rfl ?_)
            exact fin_r (rv_cell rfl rfl rfl rfl (rv_t rfl rv_nil)) rfl
        · rw [if_neg f0] at c5
          rw [joinC_no (m := m) (a := ⟨n, s0, s1, b0, b1⟩) (b := ⟨k, t0, t1, d0, d1⟩) (fun h => f0 h.2.2.2.1)]
          generalize (join b0 d0).1 = o0 at c3
          repeat' (first
            | refine call2 rfl rfl c1 ?_
            | refine call2 rfl rfl c2 ?_
            | refine w_seq ?_
            | refine w_ops ?_
            | refine st_nil ?_
            | refine th_n ?_
            | refine w_block ?_
            | refine w_skip ?_
            | refine w_false rfl ?_
            | refine g_yes rfl ?_
            | refine mv_c rfl ?_
            | refine pick_f rfl rfl ?_
            | refine gtr_f rfl rfl (by omega) ?_
            | refine not_ rfl ?_
            | refine add_in rfl rfl (by omega) ?_
            | refine sub_in rfl rfl (by omega) ?_
            | refine alloc_ (fun u => ?_)
            | refine box_ rfl rfl rfl (fun u => ?_)
            | refine build_ rfl rfl ?_
            | refine load_ptr rfl (by decide) rfl (Nat.le_of_ble_eq_true rfl) rfl ?_
            | refine store_ptr rfl rfl (by decide) rfl rfl (Nat.le_of_ble_eq_true rfl) rfl ?_
            | refine fad_ptr rfl rfl rfl ?_)
          refine w_loop ?_
          unfold b51_0 r51_5 r51_6 r51_7 r51_8 r51_9 r51_10 r51_11 r51_12
          repeat' (first
            | refine call2 rfl rfl c3 ?_
            | refine call2 rfl rfl c5 ?_
            | refine w_seq ?_
            | refine w_ops ?_
            | refine w_opsD0 rfl ?_
            | refine st_nil ?_
            | refine th_n ?_
            | refine th_r ?_
            | refine bk_r ?_
            | refine w_block ?_
            | refine w_skip ?_
            | refine w_ret ?_
            | refine w_true rfl ?_
            | refine g_yes rfl ?_
            | refine mv_c rfl ?_
            | refine pick_f rfl rfl ?_
            | refine lss_t rfl rfl (by omega) ?_
            | refine not_ rfl ?_
            | refine build_ rfl rfl ?_
            | refine load_ptr rfl (by decide) rfl (Nat.le_of_ble_eq_true rfl) rfl ?_
            | refine store_ptr rfl rfl (by decide) rfl rfl (Nat.le_of_ble_eq_true rfl) rfl ?_
            | refine fad_ptr rfl rfl rfl ?_
            | refine iaA_ptr rfl rfl rfl (by omega) rfl ?_
            | refine ext_ rfl rfl ?_)
          exact fin_r (rv_cell rfl rfl rfl rfl (rv_t rfl rv_nil)) rfl
      · rw [joinC_no (m := m) (a := ⟨n, s0, s1, b0, b1⟩) (b := ⟨k, t0, t1, d0, d1⟩) (fun h => hs h.2.2.1)]
        repeat' (first
          | refine call2 rfl rfl c1 ?_
          | refine call2 rfl rfl c2 ?_
          | refine w_seq ?_
          | refine w_ops ?_
          | refine st_nil ?_
          | refine th_n ?_
          | refine th_r ?_
          | refine w_ret ?_
          | refine w_true rfl ?_
          | refine g_yes rfl ?_
          | refine mv_c rfl ?_
          | refine pick_f rfl rfl ?_
          | refine gtr_t rfl rfl (by omega) ?_
          | refine not_ rfl ?_
          | refine sub_in rfl rfl (by omega) ?_
          | refine alloc_ (fun u => ?_)
          | refine box_ rfl rfl rfl (fun u => ?_)
          | refine build_ rfl rfl ?_
          | refine load_ptr rfl (by decide) rfl (Nat.le_of_ble_eq_true rfl) rfl ?_
          | refine store_ptr rfl rfl (by decide) rfl rfl (Nat.le_of_ble_eq_true rfl) rfl ?_
          | refine fad_ptr rfl rfl rfl ?_)
        exact fin_r (rv_cell rfl rfl rfl rfl (rv_t rfl rv_nil)) rfl
end Go.Proofs.Ytcmejdkjfekoeaa
namespace Go.Proofs.Ytcmejdkjfekoeaa
open Go.Pl Go.Bag
set_option maxHeartbeats 16000000
set_option maxRecDepth 100000
/-- a bag that has something has its ends -/
theorem ends_of {b : List Run} (hg : good b = true) (hs : 1 ≤ sum b) : endB b false = (lo_ b, true) ∧ endB b true = (hi_ b, true) ∧ ∃ q r, (b.map encR)[(0 : Int).toNat]? = some (encR q) ∧ q.1 = lo_ b ∧ (b.map encR)[((b.length : Int) - 1).toNat]? = some (encR r) ∧ r.1 = hi_ b ∧ 1 ≤ b.length := by
  rcases snoc_cases b with rfl | ⟨k, r, rfl⟩
  · simp [sum] at hs
  · obtain ⟨q, t, hq⟩ : ∃ q t, k ++ [r] = q :: t := by cases k with
      | nil => exact ⟨r, [], rfl⟩
      | cons q t => exact ⟨q, t ++ [r], rfl⟩
    have e1 : lo_ (k ++ [r]) = q.1 := by rw [hq]; rfl
    have e2 : hi_ (k ++ [r]) = r.1 := by simp [hi_]
    refine ⟨?_, ?_, q, r, by rw [hq]; rfl, e1.symm, ?_, e2.symm, by simp⟩
    · simp only [endB, hg, if_true, Bool.false_eq_true, if_false]; rw [hq]; rfl
    · simp only [endB, hg, if_true, e2]; simp
    · have : (((k ++ [r]).length : Int) - 1).toNat = k.length := by simp
      rw [this]; simp
theorem C_cLine (m : Int) (p : Go.Bag.Place) (c : Cell) (hc : inC 1000000 c) : PCallG Try.prog 49 [.c (.int .i64 m), .c (.agg (encP p)), .c (encCell c)] (.c (encLine (lineC m p c))) [] := by
  have c1 := C_cGood m c hc
  obtain ⟨n, s0, s1, b0, b1⟩ := c
  obtain ⟨hn, hs0, hs1, hr0, hr1, hl0, hl1⟩ := hc
  simp only at hn hs0 hs1 hr0 hr1 hl0 hl1
  have c2 := C_Least b0 (by omega)
  have c3 := C_Greatest b0 (by omega)
  have c4 := C_Least b1 (by omega)
  have c5 := C_Greatest b1 (by omega)
  obtain ⟨x0, x1, x2, x3⟩ := p
  show PCallG _ 49 [.c (.int .i64 m), .c (.agg [.int .u8 x0, .int .u8 x1, .int .u8 x2, .int .u8 x3]), .c (.agg [.int .i64 n, .int .i64 s0, .int .i64 s1, encL b0, encL b1])] _ _
  unfold encCell encC at c1
  refine pcallF Try.func49 c49 rfl ?_
  unfold p49 r49_0 r49_1 r49_2 r49_3 r49_4 r49_11
  cases ga : goodC m ⟨n, s0, s1, b0, b1⟩ with
  | false =>
    rw [ga] at c1
    rw [show lineC m ⟨x0, x1, x2, x3⟩ ⟨n, s0, s1, b0, b1⟩ = zeroLn by simp [lineC, ga]]
    repeat' (first
      | refine call2 rfl rfl c1 ?_
      | refine w_seq ?_
      | refine w_ops ?_
      | refine st_nil ?_
      | refine th_n ?_
      | refine th_r ?_
      | refine w_ret ?_
      | refine w_true rfl ?_
      | refine mv_c rfl ?_
      | refine not_ rfl ?_
      | refine alloc_ (fun u => ?_)
      | refine box_ rfl rfl rfl (fun u => ?_)
      | refine build_ rfl rfl ?_
      | refine load_ptr rfl (by decide) rfl (Nat.le_of_ble_eq_true rfl) rfl ?_
      | refine store_ptr rfl rfl (by decide) rfl rfl (Nat.le_of_ble_eq_true rfl) rfl ?_)
    exact fin_r (rv_cell rfl rfl rfl rfl rv_nil) rfl
  | true =>
    rw [ga] at c1
    obtain ⟨hm, ⟨g1, g2⟩, g3, g4⟩ := goodC_iff.mp ga
    simp only at g1 g2 g3 g4
    obtain ⟨p1, p2, p3⟩ := gM_iff.mp g3
    obtain ⟨e1, e2, _⟩ := ends_of p1 (by omega)
    rw [e1] at c2
    rw [e2] at c3
    by_cases hm2 : m = 2
    · rw [if_pos hm2] at g4
      obtain ⟨q1, q2, q3⟩ := gM_iff.mp g4
      obtain ⟨e3, e4, _⟩ := ends_of q1 (by omega)
      rw [e3] at c4
      rw [e4] at c5
      rw [show lineC m ⟨x0, x1, x2, x3⟩ ⟨n, s0, s1, b0, b1⟩ = ⟨x0, x1, x2, x3, n, s0, s1, lo_ b0, lo_ b1, hi_ b0, hi_ b1⟩ by unfold lineC; rw [if_pos ga]; simp [hm2]]
      generalize lo_ b0 = a0 at *
      generalize hi_ b0 = a1 at *
      generalize lo_ b1 = a2 at *
      generalize hi_ b1 = a3 at *
      repeat' (first
        | refine call2 rfl rfl c1 ?_
        | refine w_seq ?_
        | refine w_ops ?_
        | refine st_nil ?_
        | refine th_n ?_
        | refine w_block ?_
        | refine w_skip ?_
        | refine w_false rfl ?_
        | refine mv_c rfl ?_
        | refine not_ rfl ?_
        | refine alloc_ (fun u => ?_)
        | refine box_ rfl rfl rfl (fun u => ?_)
        | refine build_ rfl rfl ?_
        | refine load_ptr rfl (by decide) rfl (Nat.le_of_ble_eq_true rfl) rfl ?_
        | refine store_ptr rfl rfl (by decide) rfl rfl (Nat.le_of_ble_eq_true rfl) rfl ?_
        | refine fad_ptr rfl rfl rfl ?_)
      refine w_loop ?_
      unfold b49_0 r49_5 r49_6 r49_7 r49_8 r49_9 r49_10
      repeat' (first
        | refine call1 rfl c2 ?_
        | refine call1 rfl c3 ?_
        | refine w_seq ?_
        | refine w_ops ?_
        | refine st_nil ?_
        | refine th_n ?_
        | refine bk_n ?_
        | refine w_block ?_
        | refine w_skip ?_
        | refine w_true rfl ?_
        | refine mv_c rfl ?_
        | refine lss_t rfl rfl (by omega) ?_
        | refine add_in rfl rfl (by omega) ?_
        | refine load_ptr rfl (by decide) rfl (Nat.le_of_ble_eq_true rfl) rfl ?_
        | refine store_ptr rfl rfl (by decide) rfl rfl (Nat.le_of_ble_eq_true rfl) rfl ?_
        | refine fad_ptr rfl rfl rfl ?_
        | refine iaA_ptr rfl rfl rfl (by omega) rfl ?_
        | refine ext_ rfl rfl ?_)
      refine w_loop ?_
      repeat' (first
        | refine call1 rfl c4 ?_
        | refine call1 rfl c5 ?_
        | refine w_seq ?_
        | refine w_ops ?_
        | refine st_nil ?_
        | refine th_n ?_
        | refine bk_n ?_
        | refine w_block ?_
        | refine w_skip ?_
        | refine w_true rfl ?_
        | refine mv_c rfl ?_
        | refine lss_t rfl rfl (by omega) ?_
        | refine add_in rfl rfl (by omega) ?_
        | refine load_ptr rfl (by decide) rfl (Nat.le_of_ble_eq_true rfl) rfl ?_
        | refine store_ptr rfl rfl (by decide) rfl rfl (Nat.le_of_ble_eq_true rfl) rfl ?_
        | refine fad_ptr rfl rfl rfl ?_
        | refine iaA_ptr rfl rfl rfl (by omega) rfl ?_
        | refine ext_ rfl rfl ?_)
      refine w_loop ?_
      repeat' (first
        | refine w_seq ?_
        | refine w_ops ?_
        | refine st_nil ?_
        | refine th_n ?_
        | refine th_x ?_
        | refine bk_x ?_
        | refine w_exit ?_
        | refine w_ret ?_
        | refine w_false rfl ?_
        | refine lss_f rfl rfl (by omega) ?_
        | refine load_ptr rfl (by decide) rfl (Nat.le_of_ble_eq_true rfl) rfl ?_
        | refine store_ptr rfl rfl (by decide) rfl rfl (Nat.le_of_ble_eq_true rfl) rfl ?_)
      exact fin_r (rv_cell rfl rfl rfl rfl rv_nil) rfl
    · rw [show lineC m ⟨x0, x1, x2, x3⟩ ⟨n, s0, s1, b0, b1⟩ = ⟨x0, x1, x2, x3, n, s0, 0, lo_ b0, 0, hi_ b0, 0⟩ by unfold lineC; rw [if_pos ga]; simp [hm2]]
      generalize lo_ b0 = a0 at *
      generalize hi_ b0 = a1 at *
      repeat' (first
        | refine call2 rfl rfl c1 ?_
        | refine w_seq ?_
        | refine w_ops ?_
        | refine st_nil ?_
        | refine th_n ?_
        | refine w_block ?_
        | refine w_skip ?_
        | refine w_false rfl ?_
        | refine mv_c rfl ?_
        | refine not_ rfl ?_
        | refine alloc_ (fun u => ?_)
        | refine box_ rfl rfl rfl (fun u => ?_)
        | refine build_ rfl rfl ?_
        | refine load_ptr rfl (by decide) rfl (Nat.le_of_ble_eq_true rfl) rfl ?_
        | refine store_ptr rfl rfl (by decide) rfl rfl (Nat.le_of_ble_eq_true rfl) rfl ?_
        | refine fad_ptr rfl rfl rfl ?_)
      refine w_loop ?_
      unfold b49_0 r49_5 r49_6 r49_7 r49_8 r49_9 r49_10
      repeat' (first
        | refine call1 rfl c2 ?_
        | refine call1 rfl c3 ?_
        | refine w_seq ?_
        | refine w_ops ?_
        | refine st_nil ?_
        | refine th_n ?_
        | refine bk_n ?_
        | refine w_block ?_
        | refine w_skip ?_
        | refine w_true rfl ?_
        | refine mv_c rfl ?_
        | refine lss_t rfl rfl (by omega) ?_
        | refine add_in rfl rfl (by omega) ?_
        | refine load_ptr rfl (by decide) rfl (Nat.le_of_ble_eq_true rfl) rfl ?_
        | refine store_ptr rfl rfl (by decide) rfl rfl (Nat.le_of_ble_eq_true rfl) rfl ?_
        | refine fad_ptr rfl rfl rfl ?_
        | refine iaA_ptr rfl rfl rfl (by omega) rfl ?_
        | refine ext_ rfl rfl ?_)
      refine w_loop ?_
      repeat' (first
        | refine w_seq ?_
        | refine w_ops ?_
        | refine st_nil ?_
        | refine th_n ?_
        | refine th_x ?_
        | refine bk_x ?_
        | refine w_exit ?_
        | refine w_ret ?_
        | refine w_false rfl ?_
        | refine lss_f rfl rfl (by omega) ?_
        | refine load_ptr rfl (by decide) rfl (Nat.le_of_ble_eq_true rfl) rfl ?_
        | refine store_ptr rfl rfl (by decide) rfl rfl (Nat.le_of_ble_eq_true rfl) rfl ?_)
      exact fin_r (rv_cell rfl rfl rfl rfl rv_nil) rfl
theorem C_rcLine (m : Int) (p : Go.Bag.Place) (c : Cell) (hc : inC 999999 c) : PCallG Try.prog 50 [.c (.int .i64 m), .c (.agg (encP p)), .c (encCell c)] (.c (encLine (lineC m p c))) [] := by
  have c1 := C_rcGood m c hc
  obtain ⟨n, s0, s1, b0, b1⟩ := c
  obtain ⟨hn, hs0, hs1, hr0, hr1, hl0, hl1⟩ := hc
  simp only at hn hs0 hs1 hr0 hr1 hl0 hl1
  obtain ⟨x0, x1, x2, x3⟩ := p
  show PCallG _ 50 [.c (.int .i64 m), .c (.agg [.int .u8 x0, .int .u8 x1, .int .u8 x2, .int .u8 x3]), .c (.agg [.int .i64 n, .int .i64 s0, .int .i64 s1, encL b0, encL b1])] _ _
  unfold encCell encC at c1
  refine pcallF Try.func50 c50 rfl ?_
  unfold p50 r50_0 r50_1 r50_2 r50_3 r50_4 r50_11
  cases ga : goodC m ⟨n, s0, s1, b0, b1⟩ with
  | false =>
    rw [ga] at c1
    rw [show lineC m ⟨x0, x1, x2, x3⟩ ⟨n, s0, s1, b0, b1⟩ = zeroLn by simp [lineC, ga]]
    repeat' (first
      | refine call2 rfl rfl c1 ?_
      | refine w_seq ?_
      | refine w_ops ?_
      | refine st_nil ?_
      | refine th_n ?_
      | refine th_r ?_
      | refine w_ret ?_
      | refine w_true rfl ?_
      | refine mv_c rfl ?_
      | refine not_ rfl ?_
      | refine alloc_ (fun u => ?_)
      | refine box_ rfl rfl rfl (fun u => ?_)
      | refine build_ rfl rfl ?_
      | refine load_ptr rfl (by decide) rfl (Nat.le_of_ble_eq_true rfl) rfl ?_
      | refine store_ptr rfl rfl (by decide) rfl rfl (Nat.le_of_ble_eq_true rfl) rfl ?_)
    exact fin_r (rv_cell rfl rfl rfl rfl rv_nil) rfl
  | true =>
    rw [ga] at c1
    obtain ⟨hm, ⟨g1, g2⟩, g3, g4⟩ := goodC_iff.mp ga
    simp only at g1 g2 g3 g4
    obtain ⟨p1, p2, p3⟩ := gM_iff.mp g3
    obtain ⟨e1, e2, u0, v0, h0, h1, h2, h3, h4⟩ := ends_of p1 (by omega)
    by_cases hm2 : m = 2
    · rw [if_pos hm2] at g4
      obtain ⟨q1, q2, q3⟩ := gM_iff.mp g4
      obtain ⟨e3, e4, u1, v1, k0, k1, k2, k3, k4⟩ := ends_of q1 (by omega)
      rw [show lineC m ⟨x0, x1, x2, x3⟩ ⟨n, s0, s1, b0, b1⟩ = ⟨x0, x1, x2, x3, n, s0, s1, u0.1, u1.1, v0.1, v1.1⟩ by unfold lineC; rw [if_pos ga]; simp [hm2, h1, h3, k1, k3]]
      repeat' (first
        | refine call2 rfl rfl c1 ?_
        | refine w_seq ?_
        | refine w_ops ?_
        | refine st_nil ?_
        | refine th_n ?_
        | refine w_block ?_
        | refine w_skip ?_
        | refine w_false rfl ?_
        | refine mv_c rfl ?_
        | refine not_ rfl ?_
        | refine alloc_ (fun u => ?_)
        | refine box_ rfl rfl rfl (fun u => ?_)
        | refine build_ rfl rfl ?_
        | refine load_ptr rfl (by decide) rfl (Nat.le_of_ble_eq_true rfl) rfl ?_
        | refine store_ptr rfl rfl (by decide) rfl rfl (Nat.le_of_ble_eq_true rfl) rfl ?_
        | refine fad_ptr rfl rfl rfl ?_)
      refine w_loop ?_
      unfold b50_0 r50_5 r50_6 r50_7 r50_8 r50_9 r50_10
      repeat' (first
        | refine len_sl rfl (List.length_map _) ?_
        | refine w_seq ?_
        | refine w_ops ?_
        | refine st_nil ?_
        | refine th_n ?_
        | refine bk_n ?_
        | refine w_block ?_
        | refine w_skip ?_
        | refine w_true rfl ?_
        | refine mv_c rfl ?_
        | refine lss_t rfl rfl (by omega) ?_
        | refine add_in rfl rfl (by omega) ?_
        | refine sub_in rfl rfl (by omega) ?_
        | refine load_rp rfl (Nat.le_of_ble_eq_true rfl) rfl ?_
        | refine load_ptr rfl (by decide) rfl (Nat.le_of_ble_eq_true rfl) rfl ?_
        | refine store_ptr rfl rfl (by decide) rfl rfl (Nat.le_of_ble_eq_true rfl) rfl ?_
        | refine fad_ptr rfl rfl rfl ?_
        | refine fad_rp rfl (Nat.le_of_ble_eq_true rfl) rfl ?_
        | refine iaA_ptr rfl rfl rfl (by omega) rfl ?_
        | refine iaS_c rfl rfl (by omega) (by assumption) rfl ?_)
      refine w_loop ?_
      repeat' (first
        | refine len_sl rfl (List.length_map _) ?_
        | refine w_seq ?_
        | refine w_ops ?_
        | refine st_nil ?_
        | refine th_n ?_
        | refine bk_n ?_
        | refine w_block ?_
        | refine w_skip ?_
        | refine w_true rfl ?_
        | refine mv_c rfl ?_
        | refine lss_t rfl rfl (by omega) ?_
        | refine add_in rfl rfl (by omega) ?_
        | refine sub_in rfl rfl (by omega) ?_
        | refine load_rp rfl (Nat.le_of_ble_eq_true rfl) rfl ?_
        | refine load_ptr rfl (by decide) rfl (Nat.le_of_ble_eq_true rfl) rfl ?_
        | refine store_ptr rfl rfl (by decide) rfl rfl (Nat.le_of_ble_eq_true rfl) rfl ?_
        | refine fad_ptr rfl rfl rfl ?_
        | refine fad_rp rfl (Nat.le_of_ble_eq_true rfl) rfl ?_
        | refine iaA_ptr rfl rfl rfl (by omega) rfl ?_
        | refine iaS_c rfl rfl (by omega) (by assumption) rfl ?_)
      refine w_loop ?_
      repeat' (first
        | refine w_seq ?_
        | refine w_ops ?_
        | refine st_nil ?_
        | refine th_n ?_
        | refine th_x ?_
        | refine bk_x ?_
        | refine w_exit ?_
        | refine w_ret ?_
        | refine w_false rfl ?_
        | refine mv_c rfl ?_
        | refine lss_f rfl rfl (by omega) ?_
        | refine load_ptr rfl (by decide) rfl (Nat.le_of_ble_eq_true rfl) rfl ?_
        | refine store_ptr rfl rfl (by decide) rfl rfl (Nat.le_of_ble_eq_true rfl) rfl ?_)
      exact fin_r (rv_cell rfl rfl rfl rfl rv_nil) rfl
    · rw [show lineC m ⟨x0, x1, x2, x3⟩ ⟨n, s0, s1, b0, b1⟩ = ⟨x0, x1, x2, x3, n, s0, 0, u0.1, 0, v0.1, 0⟩ by unfold lineC; rw [if_pos ga]; simp [hm2, h1, h3]]
      repeat' (first
        | refine call2 rfl rfl c1 ?_
        | refine w_seq ?_
        | refine w_ops ?_
        | refine st_nil ?_
        | refine th_n ?_
        | refine w_block ?_
        | refine w_skip ?_
        | refine w_false rfl ?_
        | refine mv_c rfl ?_
        | refine not_ rfl ?_
        | refine alloc_ (fun u => ?_)
        | refine box_ rfl rfl rfl (fun u => ?_)
        | refine build_ rfl rfl ?_
        | refine load_ptr rfl (by decide) rfl (Nat.le_of_ble_eq_true rfl) rfl ?_
        | refine store_ptr rfl rfl (by decide) rfl rfl (Nat.le_of_ble_eq_true rfl) rfl ?_
        | refine fad_ptr rfl rfl rfl ?_)
      refine w_loop ?_
      unfold b50_0 r50_5 r50_6 r50_7 r50_8 r50_9 r50_10
      repeat' (first
        | refine len_sl rfl (List.length_map _) ?_
        | refine w_seq ?_
        | refine w_ops ?_
        | refine st_nil ?_
        | refine th_n ?_
        | refine bk_n ?_
        | refine w_block ?_
        | refine w_skip ?_
        | refine w_true rfl ?_
        | refine mv_c rfl ?_
        | refine lss_t rfl rfl (by omega) ?_
        | refine add_in rfl rfl (by omega) ?_
        | refine sub_in rfl rfl (by omega) ?_
        | refine load_rp rfl (Nat.le_of_ble_eq_true rfl) rfl ?_
        | refine load_ptr rfl (by decide) rfl (Nat.le_of_ble_eq_true rfl) rfl ?_
        | refine store_ptr rfl rfl (by decide) rfl rfl (Nat.le_of_ble_eq_true rfl) rfl ?_
        | refine fad_ptr rfl rfl rfl ?_
        | refine fad_rp rfl (Nat.le_of_ble_eq_true rfl) rfl ?_
        | refine iaA_ptr rfl rfl rfl (by omega) rfl ?_
        | refine iaS_c rfl rfl (by omega) (by assumption) rfl ?_)
      refine w_loop ?_
      repeat' (first
        | refine w_seq ?_
        | refine w_ops ?_
        | refine st_nil ?_
        | refine th_n ?_
        | refine th_x ?_
        | refine bk_x ?_
        | refine w_exit ?_
        | refine w_ret ?_
        | refine w_false rfl ?_
        | refine mv_c rfl ?_
        | refine lss_f rfl rfl (by omega) ?_
        | refine load_ptr rfl (by decide) rfl (Nat.le_of_ble_eq_true rfl) rfl ?_
        | refine store_ptr rfl rfl (by decide) rfl rfl (Nat.le_of_ble_eq_true rfl) rfl ?_)
      exact fin_r (rv_cell rfl rfl rfl rfl rv_nil) rfl
end Go.Proofs.Ytcmejdkjfekoeaa
namespace Go.Proofs.Ytcmejdkjfekoeaa
open Go.Pl Go.Bag
set_option maxHeartbeats 16000000
theorem same_B (j k : List Run) (hj : j.length ≤ 1000000) (hk : k.length ≤ 1000000) : PCallG Try.prog 29 [.c (encL j), .c (encL k)] (.c (.bool (decide (j = k)))) [] := C_Same j k (by omega) (by omega)
theorem eq2_of (a b c d : Int) : eqC true [LK.i, LK.i] (.agg [.int .i64 a, .int .i64 b]) (.agg [.int .i64 c, .int .i64 d]) = some (decide (a = c ∧ b = d)) := by
  have : eqC true [LK.i, LK.i] (.agg [.int .i64 a, .int .i64 b]) (.agg [.int .i64 c, .int .i64 d]) = some ((a == c) && ((b == d) && true)) := by simp [eqC, shEq]
  rw [this]
  congr 1
  by_cases h1 : a = c <;> by_cases h2 : b = d <;> simp [h1, h2]
theorem C_cSame (a b : Cell) (ha : a.b0.length ≤ 1000000 ∧ a.b1.length ≤ 1000000) (hb : b.b0.length ≤ 1000000 ∧ b.b1.length ≤ 1000000) : PCallG Try.prog 53 [.c (encCell a), .c (encCell b)] (.c (.bool (decide (a = b)))) [] := by
  obtain ⟨n, s0, s1, b0, b1⟩ := a
  obtain ⟨k, t0, t1, d0, d1⟩ := b
  simp only at ha hb
  show PCallG _ 53 [.c (.agg [.int .i64 n, .int .i64 s0, .int .i64 s1, encL b0, encL b1]), .c (.agg [.int .i64 k, .int .i64 t0, .int .i64 t1, encL d0, encL d1])] _ _
  refine pcallF Try.func53 c53 rfl ?_
  have c1 := same_B b0 d0 ha.1 hb.1
  have c2 := same_B b1 d1 ha.2 hb.2
  have e := eq2_of s0 s1 t0 t1
  unfold p53 r53_0 r53_1 r53_2 r53_3 r53_9
  by_cases h1 : n = k
  · by_cases h2 : s0 = t0 ∧ s1 = t1
    · rw [decide_eq_true h2] at e
      repeat' (first
        | refine eqs_f rfl rfl e ?_
        | refine w_seq ?_
        | refine w_ops ?_
        | refine st_nil ?_
        | refine th_n ?_
        | refine w_block ?_
        | refine w_skip ?_
        | refine w_false rfl ?_
        | refine g_yes rfl ?_
        | refine mv_c rfl ?_
        | refine pick_f rfl rfl ?_
        | refine neq_f rfl rfl (by omega) ?_
        | refine box_ rfl rfl rfl (fun u => ?_)
        | refine load_ptr rfl (by decide) rfl (Nat.le_of_ble_eq_true rfl) rfl ?_
        | refine fad_ptr rfl rfl rfl ?_)
      refine w_loop ?_
      unfold b53_0 r53_4 r53_5 r53_6 r53_7 r53_8
      by_cases h3 : b0 = d0
      · rw [decide_eq_true h3] at c1
        repeat' (first
          | refine call2 rfl rfl c1 ?_
          | refine w_seq ?_
          | refine w_ops ?_
          | refine w_opsD0 rfl ?_
          | refine st_nil ?_
          | refine th_n ?_
          | refine bk_n ?_
          | refine w_block ?_
          | refine w_skip ?_
          | refine w_true rfl ?_
          | refine w_false rfl ?_
          | refine mv_c rfl ?_
          | refine lss_t rfl rfl (by omega) ?_
          | refine not_ rfl ?_
          | refine add_in rfl rfl (by omega) ?_
          | refine load_ptr rfl (by decide) rfl (Nat.le_of_ble_eq_true rfl) rfl ?_
          | refine fad_ptr rfl rfl rfl ?_
          | refine iaA_ptr rfl rfl rfl (by omega) rfl ?_)
        refine w_loop ?_
        by_cases h4 : b1 = d1
        · rw [decide_eq_true h4] at c2
          rw [decide_eq_true (by rw [h1, h2.1, h2.2, h3, h4])]
          repeat' (first
            | refine call2 rfl rfl c2 ?_
            | refine w_seq ?_
            | refine w_ops ?_
            | refine w_opsD0 rfl ?_
            | refine st_nil ?_
            | refine th_n ?_
            | refine bk_n ?_
            | refine w_block ?_
            | refine w_skip ?_
            | refine w_true rfl ?_
            | refine w_false rfl ?_
            | refine mv_c rfl ?_
            | refine lss_t rfl rfl (by omega) ?_
            | refine not_ rfl ?_
            | refine add_in rfl rfl (by omega) ?_
            | refine load_ptr rfl (by decide) rfl (Nat.le_of_ble_eq_true rfl) rfl ?_
            | refine fad_ptr rfl rfl rfl ?_
            | refine iaA_ptr rfl rfl rfl (by omega) rfl ?_)
          refine w_loop ?_
          repeat' (first
            | refine w_seq ?_
            | refine w_ops ?_
            | refine st_nil ?_
            | refine th_n ?_
            | refine th_x ?_
            | refine bk_x ?_
            | refine w_exit ?_
            | refine w_ret ?_
            | refine w_false rfl ?_
            | refine mv_c rfl ?_
            | refine lss_f rfl rfl (by omega) ?_)
          exact fin_r rfl rfl
        · rw [decide_eq_false h4] at c2
          rw [decide_eq_false (by intro h; exact h4 (congrArg Cell.b1 h))]
          repeat' (first
            | refine call2 rfl rfl c2 ?_
            | refine w_seq ?_
            | refine w_ops ?_
            | refine w_opsD0 rfl ?_
            | refine st_nil ?_
            | refine th_n ?_
            | refine th_r ?_
            | refine bk_r ?_
            | refine w_block ?_
            | refine w_skip ?_
            | refine w_ret ?_
            | refine w_true rfl ?_
            | refine mv_c rfl ?_
            | refine lss_t rfl rfl (by omega) ?_
            | refine not_ rfl ?_
            | refine load_ptr rfl (by decide) rfl (Nat.le_of_ble_eq_true rfl) rfl ?_
            | refine fad_ptr rfl rfl rfl ?_
            | refine iaA_ptr rfl rfl rfl (by omega) rfl ?_)
          exact fin_r rfl rfl
      · rw [decide_eq_false h3] at c1
        rw [decide_eq_false (by intro h; exact h3 (congrArg Cell.b0 h))]
        repeat' (first
          | refine call2 rfl rfl c1 ?_
          | refine w_seq ?_
          | refine w_ops ?_
          | refine w_opsD0 rfl ?_
          | refine st_nil ?_
          | refine th_n ?_
          | refine th_r ?_
          | refine bk_r ?_
          | refine w_block ?_
          | refine w_skip ?_
          | refine w_ret ?_
          | refine w_true rfl ?_
          | refine mv_c rfl ?_
          | refine lss_t rfl rfl (by omega) ?_
          | refine not_ rfl ?_
          | refine load_ptr rfl (by decide) rfl (Nat.le_of_ble_eq_true rfl) rfl ?_
          | refine fad_ptr rfl rfl rfl ?_
          | refine iaA_ptr rfl rfl rfl (by omega) rfl ?_)
        exact fin_r rfl rfl
    · rw [decide_eq_false h2] at e
      rw [decide_eq_false (by intro h; exact h2 ⟨congrArg Cell.s0 h, congrArg Cell.s1 h⟩)]
      repeat' (first
        | refine eqs_f rfl rfl e ?_
        | refine w_seq ?_
        | refine w_ops ?_
        | refine st_nil ?_
        | refine th_n ?_
        | refine th_r ?_
        | refine w_ret ?_
        | refine w_true rfl ?_
        | refine g_yes rfl ?_
        | refine mv_c rfl ?_
        | refine pick_f rfl rfl ?_
        | refine neq_f rfl rfl (by omega) ?_
        | refine box_ rfl rfl rfl (fun u => ?_)
        | refine load_ptr rfl (by decide) rfl (Nat.le_of_ble_eq_true rfl) rfl ?_
        | refine fad_ptr rfl rfl rfl ?_)
      exact fin_r rfl rfl
  · rw [decide_eq_false (by intro h; exact h1 (congrArg Cell.n h))]
    repeat' (first
      | refine w_seq ?_
      | refine w_ops ?_
      | refine st_nil ?_
      | refine th_n ?_
      | refine th_r ?_
      | refine w_ret ?_
      | refine w_true rfl ?_
      | refine g_no rfl ?_
      | refine mv_c rfl ?_
      | refine pick_t rfl rfl ?_
      | refine neq_t rfl rfl (by omega) ?_
      | refine box_ rfl rfl rfl (fun u => ?_)
      | refine load_ptr rfl (by decide) rfl (Nat.le_of_ble_eq_true rfl) rfl ?_
      | refine fad_ptr rfl rfl rfl ?_)
    exact fin_r rfl rfl
theorem C_rcSame (a b : Cell) (ha : a.b0.length ≤ 1000000 ∧ a.b1.length ≤ 1000000) (hb : b.b0.length ≤ 1000000 ∧ b.b1.length ≤ 1000000) : PCallG Try.prog 46 [.c (encCell a), .c (encCell b)] (.c (.bool (decide (a = b)))) [] := by
  obtain ⟨n, s0, s1, b0, b1⟩ := a
  obtain ⟨k, t0, t1, d0, d1⟩ := b
  simp only at ha hb
  show PCallG _ 46 [.c (.agg [.int .i64 n, .int .i64 s0, .int .i64 s1, encL b0, encL b1]), .c (.agg [.int .i64 k, .int .i64 t0, .int .i64 t1, encL d0, encL d1])] _ _
  refine pcallF Try.func46 c46 rfl ?_
  have c1 := C_rSame b0 d0 (by omega) (by omega)
  have c2 := C_rSame b1 d1 (by omega) (by omega)
  unfold p46 r46_0 r46_1 r46_6
  repeat' (first
    | refine w_seq ?_
    | refine w_ops ?_
    | refine st_nil ?_
    | refine th_n ?_
    | refine w_block ?_
    | refine mv_c rfl ?_
    | refine box_ rfl rfl rfl (fun u => ?_))
  refine w_loop ?_
  unfold b46_0 r46_2 r46_3 r46_4 r46_5
  by_cases h1 : s0 = t0
  · by_cases h3 : b0 = d0
    · rw [decide_eq_true h3] at c1
      repeat' (first
        | refine call2 rfl rfl c1 ?_
        | refine w_seq ?_
        | refine w_ops ?_
        | refine w_opsD0 rfl ?_
        | refine st_nil ?_
        | refine th_n ?_
        | refine bk_n ?_
        | refine w_block ?_
        | refine w_skip ?_
        | refine w_true rfl ?_
        | refine w_false rfl ?_
        | refine g_yes rfl ?_
        | refine mv_c rfl ?_
        | refine pick_f rfl rfl ?_
        | refine lss_t rfl rfl (by omega) ?_
        | refine neq_f rfl rfl (by omega) ?_
        | refine not_ rfl ?_
        | refine add_in rfl rfl (by omega) ?_
        | refine load_ptr rfl (by decide) rfl (Nat.le_of_ble_eq_true rfl) rfl ?_
        | refine fad_ptr rfl rfl rfl ?_
        | refine iaA_ptr rfl rfl rfl (by omega) rfl ?_)
      refine w_loop ?_
      by_cases h2 : s1 = t1
      · by_cases h4 : b1 = d1
        · rw [decide_eq_true h4] at c2
          repeat' (first
            | refine call2 rfl rfl c2 ?_
            | refine w_seq ?_
            | refine w_ops ?_
            | refine w_opsD0 rfl ?_
            | refine st_nil ?_
            | refine th_n ?_
            | refine bk_n ?_
            | refine w_block ?_
            | refine w_skip ?_
            | refine w_true rfl ?_
            | refine w_false rfl ?_
            | refine g_yes rfl ?_
            | refine mv_c rfl ?_
            | refine pick_f rfl rfl ?_
            | refine lss_t rfl rfl (by omega) ?_
            | refine neq_f rfl rfl (by omega) ?_
            | refine not_ rfl ?_
            | refine add_in rfl rfl (by omega) ?_
            | refine load_ptr rfl (by decide) rfl (Nat.le_of_ble_eq_true rfl) rfl ?_
            | refine fad_ptr rfl rfl rfl ?_
            | refine iaA_ptr rfl rfl rfl (by omega) rfl ?_)
          refine w_loop ?_
          by_cases h5 : n = k
          · rw [decide_eq_true (by rw [h1, h2, h3, h4, h5])]
            repeat' (first
              | refine w_seq ?_
              | refine w_ops ?_
              | refine st_nil ?_
              | refine th_n ?_
              | refine th_x ?_
              | refine bk_x ?_
              | refine w_exit ?_
              | refine w_ret ?_
              | refine w_false rfl ?_
              | refine mv_c rfl ?_
              | refine lss_f rfl rfl (by omega) ?_
              | refine eql_t rfl rfl (by omega) ?_
              | refine load_ptr rfl (by decide) rfl (Nat.le_of_ble_eq_true rfl) rfl ?_
              | refine fad_ptr rfl rfl rfl ?_)
            exact fin_r rfl rfl
          · rw [decide_eq_false (by intro h; exact h5 (congrArg Cell.n h))]
            repeat' (first
              | refine w_seq ?_
              | refine w_ops ?_
              | refine st_nil ?_
              | refine th_n ?_
              | refine th_x ?_
              | refine bk_x ?_
              | refine w_exit ?_
              | refine w_ret ?_
              | refine w_false rfl ?_
              | refine mv_c rfl ?_
              | refine lss_f rfl rfl (by omega) ?_
              | refine eql_f rfl rfl (by omega) ?_
              | refine load_ptr rfl (by decide) rfl (Nat.le_of_ble_eq_true rfl) rfl ?_
              | refine fad_ptr rfl rfl rfl ?_)
            exact fin_r rfl rfl
        · rw [decide_eq_false h4] at c2
          rw [decide_eq_false (by intro h; exact h4 (congrArg Cell.b1 h))]
          repeat' (first
            | refine call2 rfl rfl c2 ?_
            | refine w_seq ?_
            | refine w_ops ?_
            | refine w_opsD0 rfl ?_
            | refine st_nil ?_
            | refine th_n ?_
            | refine th_r ?_
            | refine bk_r ?_
            | refine w_block ?_
            | refine w_skip ?_
            | refine w_ret ?_
            | refine w_true rfl ?_
            | refine g_yes rfl ?_
            | refine mv_c rfl ?_
            | refine pick_f rfl rfl ?_
            | refine lss_t rfl rfl (by omega) ?_
            | refine neq_f rfl rfl (by omega) ?_
            | refine not_ rfl ?_
            | refine load_ptr rfl (by decide) rfl (Nat.le_of_ble_eq_true rfl) rfl ?_
            | refine fad_ptr rfl rfl rfl ?_
            | refine iaA_ptr rfl rfl rfl (by omega) rfl ?_)
          exact fin_r rfl rfl
      · rw [decide_eq_false (by intro h; exact h2 (congrArg Cell.s1 h))]
        repeat' (first
          | refine w_seq ?_
          | refine w_ops ?_
          | refine w_opsD0 rfl ?_
          | refine st_nil ?_
          | refine th_n ?_
          | refine th_r ?_
          | refine bk_r ?_
          | refine w_block ?_
          | refine w_skip ?_
          | refine w_ret ?_
          | refine w_true rfl ?_
          | refine g_no rfl ?_
          | refine mv_c rfl ?_
          | refine pick_t rfl rfl ?_
          | refine lss_t rfl rfl (by omega) ?_
          | refine neq_t rfl rfl (by omega) ?_
          | refine load_ptr rfl (by decide) rfl (Nat.le_of_ble_eq_true rfl) rfl ?_
          | refine fad_ptr rfl rfl rfl ?_
          | refine iaA_ptr rfl rfl rfl (by omega) rfl ?_)
        exact fin_r rfl rfl
    · rw [decide_eq_false h3] at c1
      rw [decide_eq_false (by intro h; exact h3 (congrArg Cell.b0 h))]
      repeat' (first
        | refine call2 rfl rfl c1 ?_
        | refine w_seq ?_
        | refine w_ops ?_
        | refine w_opsD0 rfl ?_
        | refine st_nil ?_
        | refine th_n ?_
        | refine th_r ?_
        | refine bk_r ?_
        | refine w_block ?_
        | refine w_skip ?_
        | refine w_ret ?_
        | refine w_true rfl ?_
        | refine g_yes rfl ?_
        | refine mv_c rfl ?_
        | refine pick_f rfl rfl ?_
        | refine lss_t rfl rfl (by omega) ?_
        | refine neq_f rfl rfl (by omega) ?_
        | refine not_ rfl ?_
        | refine load_ptr rfl (by decide) rfl (Nat.le_of_ble_eq_true rfl) rfl ?_
        | refine fad_ptr rfl rfl rfl ?_
        | refine iaA_ptr rfl rfl rfl (by omega) rfl ?_)
      exact fin_r rfl rfl
  · rw [decide_eq_false (by intro h; exact h1 (congrArg Cell.s0 h))]
    repeat' (first
      | refine w_seq ?_
      | refine w_ops ?_
      | refine w_opsD0 rfl ?_
      | refine st_nil ?_
      | refine th_n ?_
      | refine th_r ?_
      | refine bk_r ?_
      | refine w_block ?_
      | refine w_skip ?_
      | refine w_ret ?_
      | refine w_true rfl ?_
      | refine g_no rfl ?_
      | refine mv_c rfl ?_
      | refine pick_t rfl rfl ?_
      | refine lss_t rfl rfl (by omega) ?_
      | refine neq_t rfl rfl (by omega) ?_
      | refine load_ptr rfl (by decide) rfl (Nat.le_of_ble_eq_true rfl) rfl ?_
      | refine fad_ptr rfl rfl rfl ?_
      | refine iaA_ptr rfl rfl rfl (by omega) rfl ?_)
    exact fin_r rfl rfl
/-- few enough runs? -/
def lightC (c : Cell) : Bool := decide (c.b0.length ≤ 60 ∧ c.b1.length ≤ 60)
theorem C_LightCell (c : Cell) (h0 : c.b0.length ≤ 9223372036854775807) (h1 : c.b1.length ≤ 9223372036854775807) : PCallG Try.prog 42 [.c (encCell c)] (.c (.bool (lightC c))) [] := by
  obtain ⟨n, s0, s1, b0, b1⟩ := c
  simp only at h0 h1
  show PCallG _ 42 [.c (.agg [.int .i64 n, .int .i64 s0, .int .i64 s1, encL b0, encL b1])] _ _
  refine pcallF Try.func42 c42 rfl ?_
  unfold p42 r42_0 r42_1 r42_2 r42_6
  repeat' (first
    | refine w_seq ?_
    | refine w_ops ?_
    | refine st_nil ?_
    | refine th_n ?_
    | refine w_block ?_
    | refine mv_c rfl ?_
    | refine box_ rfl rfl rfl (fun u => ?_))
  refine w_loop ?_
  unfold b42_0 r42_3 r42_4 r42_5
  repeat' (first
    | refine len_sl rfl (List.length_map _) ?_
    | refine w_seq ?_
    | refine w_ops ?_
    | refine st_nil ?_
    | refine th_n ?_
    | refine bk_n ?_
    | refine w_block ?_
    | refine w_skip ?_
    | refine w_true rfl ?_
    | refine mv_c rfl ?_
    | refine lss_t rfl rfl (by omega) ?_
    | refine add_in rfl rfl (by omega) ?_
    | refine load_ptr rfl (by decide) rfl (Nat.le_of_ble_eq_true rfl) rfl ?_
    | refine fad_ptr rfl rfl rfl ?_
    | refine iaA_ptr rfl rfl rfl (by omega) rfl ?_
    | refine mm_max rfl rfl ?_)
  refine w_loop ?_
  repeat' (first
    | refine len_sl rfl (List.length_map _) ?_
    | refine w_seq ?_
    | refine w_ops ?_
    | refine st_nil ?_
    | refine th_n ?_
    | refine bk_n ?_
    | refine w_block ?_
    | refine w_skip ?_
    | refine w_true rfl ?_
    | refine mv_c rfl ?_
    | refine lss_t rfl rfl (by omega) ?_
    | refine add_in rfl rfl (by omega) ?_
    | refine load_ptr rfl (by decide) rfl (Nat.le_of_ble_eq_true rfl) rfl ?_
    | refine fad_ptr rfl rfl rfl ?_
    | refine iaA_ptr rfl rfl rfl (by omega) rfl ?_
    | refine mm_max rfl rfl ?_)
  refine w_loop ?_
  by_cases h : b0.length ≤ 60 ∧ b1.length ≤ 60
  · rw [show lightC ⟨n, s0, s1, b0, b1⟩ = true from decide_eq_true h]
    repeat' (first
      | refine leq_t rfl rfl (by (repeat' split) <;> omega) ?_
      | refine w_seq ?_
      | refine w_ops ?_
      | refine st_nil ?_
      | refine th_n ?_
      | refine th_x ?_
      | refine bk_x ?_
      | refine w_exit ?_
      | refine w_ret ?_
      | refine w_false rfl ?_
      | refine mv_c rfl ?_
      | refine lss_f rfl rfl (by omega) ?_)
    exact fin_r rfl rfl
  · rw [show lightC ⟨n, s0, s1, b0, b1⟩ = false from decide_eq_false h]
    repeat' (first
      | refine leq_f rfl rfl (by (repeat' split) <;> omega) ?_
      | refine w_seq ?_
      | refine w_ops ?_
      | refine st_nil ?_
      | refine th_n ?_
      | refine th_x ?_
      | refine bk_x ?_
      | refine w_exit ?_
      | refine w_ret ?_
      | refine w_false rfl ?_
      | refine mv_c rfl ?_
      | refine lss_f rfl rfl (by omega) ?_)
    exact fin_r rfl rfl
end Go.Proofs.Ytcmejdkjfekoeaa

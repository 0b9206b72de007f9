/-
  BAGS, PLAIN, the seventh part: bags of values joined, taken away, summed. My own work.
-/
import Derived.Test.YtcmejdkjfekoeaaMBag6
namespace Go.Bag
open Go.Pl

theorem num_append : ∀ (a b : List Int) (v : Int), num (a ++ b) v = num a v + num b v
  | [], b, v => by simp [num_nil]
  | x :: a, b, v => by simp only [List.cons_append, num_cons, num_append a b v]; omega
theorem num_perm {a b : List Int} (h : a.Perm b) (v : Int) : num a v = num b v := by simp only [num, h.count_eq]
theorem num_nonneg (l : List Int) (v : Int) : 0 ≤ num l v := Int.natCast_nonneg _

theorem ofL_perm {a b : List Int} (h : a.Perm b) : ofL a = ofL b := by
  obtain ⟨h1, h2, h3, _⟩ := ofL_facts a
  exact ofL_ext h1 h2 fun v => by rw [h3, num_perm h]

theorem join_ok {a b : List Run} (ga : good a = true) (gb : good b = true) (h : sum a + sum b ≤ cap) : ∃ o, join a b = (o, true) ∧ good o = true ∧ sum o = sum a + sum b ∧ ∀ v, cnt o v = cnt a v + cnt b v := by
  obtain ⟨a1, a2, a3⟩ := good_iff.mp ga
  obtain ⟨b1, b2, b3⟩ := good_iff.mp gb
  have h0 : cap = 1099511627776 := rfl
  obtain ⟨m1, m2, m3, m4⟩ := merge_facts _ [] a b rfl (by simp [asc]) a1 b1 (fun q hq => by simp at hq) a2 b2 (fun r _ q hq => by simp at hq) (fun r _ q hq => by simp at hq)
  have m5 : sum (merge [] a b) = sum a + sum b := by rw [m4]; simp [sum]
  refine ⟨merge [] a b, ?_, good_iff.mpr ⟨m1, m2, by omega⟩, m5, fun v => by rw [m3]; simp [cnt]⟩
  unfold join
  rw [if_pos ⟨ga, gb, by omega⟩]

theorem join_no {a b : List Run} (h : ¬ (good a = true ∧ good b = true ∧ sum a + sum b ≤ cap)) : join a b = ([], false) := by
  have h0 : cap = 1099511627776 := rfl
  unfold join
  rw [if_neg fun h' => h ⟨h'.1, h'.2.1, by omega⟩]

theorem join_ofL {a b : List Int} (ha : a.length ≤ 1000) (hb : b.length ≤ 1000) : join (ofL a) (ofL b) = (ofL (a ++ b), true) := by
  obtain ⟨_, _, a3, a4, _⟩ := ofL_facts a
  obtain ⟨_, _, b3, b4, _⟩ := ofL_facts b
  have h0 : cap = 1099511627776 := rfl
  obtain ⟨o, h, g, _, hc⟩ := join_ok (good_ofL (l := a) (by omega)) (good_ofL (l := b) (by omega)) (by omega)
  obtain ⟨g1, g2, _⟩ := good_iff.mp g
  rw [h, ofL_ext (l := a ++ b) g1 g2 fun v => by rw [hc, a3, b3, num_append]]

theorem minus_ofL2 {a b : List Int} (ha : a.length ≤ 1000) (hb : b.length ≤ 1000) : minus (ofL (a ++ b)) (ofL b) = (ofL a, true) := by
  have a3 := (ofL_facts (a ++ b)).2.2.1
  have b3 := (ofL_facts b).2.2.1
  obtain ⟨o, ho, o1, o2, o3⟩ := minus_facts (a := ofL (a ++ b)) (b := ofL b) (good_ofL (by simp; omega)) (good_ofL (by omega)) (fun v => by
    rw [a3, b3, num_append]
    have := num_nonneg a v
    omega)
  have e : o = ofL a := ofL_ext o1 o2 fun v => by rw [o3, a3, b3, num_append]; omega
  rw [ho, e]
theorem minus_self {a : List Int} (ha : a.length ≤ 1000) : minus (ofL a) (ofL a) = ([], true) := by
  have := minus_ofL2 (a := []) (b := a) (by simp) ha
  rw [ofL_nil] at this
  exact this

/-! ### sums -/
theorem wsum_append : ∀ (l k : List Run), wsum (l ++ k) = wsum l + wsum k
  | [], k => by simp [wsum]
  | r :: l, k => by simp only [List.cons_append, wsum, wsum_append l k]; omega
theorem wsum_moreL (l : List Run) (v n : Int) : wsum (moreL l v n) = wsum l + v * n := by
  rcases snoc_cases l with rfl | ⟨k, r, rfl⟩
  · simp [moreL_nil, wsum]
  · by_cases hv : r.1 = v
    · subst hv; rw [moreL_eq, wsum_append, wsum_append]; simp only [wsum, Int.mul_add]; omega
    · rw [moreL_ne _ _ _ _ hv, wsum_append]; simp only [wsum]; omega
def sumI : List Int → Int
  | [] => 0
  | a :: l => a + sumI l
theorem wsum_ofS : ∀ (l : List Int) (out : List Run), wsum (ofS out l) = wsum out + sumI l
  | [], out => by simp [ofS, sumI]
  | x :: l, out => by rw [ofS, wsum_ofS l, wsum_moreL]; simp only [sumI]; omega
theorem sumI_perm {a b : List Int} (h : a.Perm b) : sumI a = sumI b := by
  induction h with
  | nil => rfl
  | cons x _ ih => simp only [sumI, ih]
  | swap x y l => simp only [sumI]; omega
  | trans _ _ h1 h2 => rw [h1, h2]
theorem wsum_ofL (l : List Int) : wsum (ofL l) = sumI l := by
  rw [ofL, wsum_ofS, sumI_perm (srt_perm l)]; simp [wsum]

theorem ranged_ofL {l : List Int} (h : ∀ a ∈ l, -9223372036854775808 ≤ a ∧ a ≤ 9223372036854775807) (hl : l.length ≤ 1000000) : ranged (ofL l) := by
  obtain ⟨h1, h2, h3, h4, _⟩ := ofL_facts l
  intro r hr
  have := le_sum h2 r hr
  refine ⟨h r.1 (ofL_mem hr), by omega, by omega⟩
end Go.Bag

/-
  BAGS, PLAIN, the sixth part: the ends of a bag of values. My own work.
-/
import Derived.Test.YtcmejdkjfekoeaaMBag5
namespace Go.Bag
open Go.Pl

def loF : Int → List Int → Int
  | a, [] => a
  | a, y :: l => loF (if y < a then y else a) l
def hiF : Int → List Int → Int
  | a, [] => a
  | a, y :: l => hiF (if y > a then y else a) l

theorem loF_facts : ∀ (l : List Int) (a : Int), loF a l ≤ a ∧ (∀ y ∈ l, loF a l ≤ y) ∧ (loF a l = a ∨ loF a l ∈ l)
  | [], a => by simp [loF]
  | y :: l, a => by
    by_cases h : y < a
    · obtain ⟨h1, h2, h3⟩ := loF_facts l y
      simp only [loF, if_pos h]
      refine ⟨by omega, fun z hz => ?_, .inr ?_⟩
      · rcases List.mem_cons.mp hz with rfl | hz
        · exact h1
        · exact h2 z hz
      · rcases h3 with h3 | h3
        · rw [h3]; simp
        · exact List.mem_cons_of_mem _ h3
    · obtain ⟨h1, h2, h3⟩ := loF_facts l a
      simp only [loF, if_neg h]
      refine ⟨by omega, fun z hz => ?_, ?_⟩
      · rcases List.mem_cons.mp hz with rfl | hz
        · omega
        · exact h2 z hz
      · rcases h3 with h3 | h3
        · exact .inl h3
        · exact .inr (List.mem_cons_of_mem _ h3)
theorem hiF_facts : ∀ (l : List Int) (a : Int), a ≤ hiF a l ∧ (∀ y ∈ l, y ≤ hiF a l) ∧ (hiF a l = a ∨ hiF a l ∈ l)
  | [], a => by simp [hiF]
  | y :: l, a => by
    by_cases h : y > a
    · obtain ⟨h1, h2, h3⟩ := hiF_facts l y
      simp only [hiF, if_pos h]
      refine ⟨by omega, fun z hz => ?_, .inr ?_⟩
      · rcases List.mem_cons.mp hz with rfl | hz
        · exact h1
        · exact h2 z hz
      · rcases h3 with h3 | h3
        · rw [h3]; simp
        · exact List.mem_cons_of_mem _ h3
    · obtain ⟨h1, h2, h3⟩ := hiF_facts l a
      simp only [hiF, if_neg h]
      refine ⟨by omega, fun z hz => ?_, ?_⟩
      · rcases List.mem_cons.mp hz with rfl | hz
        · omega
        · exact h2 z hz
      · rcases h3 with h3 | h3
        · exact .inl h3
        · exact .inr (List.mem_cons_of_mem _ h3)
theorem ofL_ne (x : Int) (l : List Int) : ofL (x :: l) ≠ [] := by
  intro h
  obtain ⟨r, hr, _⟩ := ofL_mem' (l := x :: l) (v := x) (by simp)
  rw [h] at hr; simp at hr

theorem ofL_head (x : Int) (l : List Int) : ∃ r k, ofL (x :: l) = r :: k ∧ r.1 = loF x (x :: l) := by
  have ha := (ofL_facts (x :: l)).1
  have hm := fun r (h : r ∈ ofL (x :: l)) => ofL_mem h
  have hm' := fun v (h : v ∈ x :: l) => ofL_mem' h
  generalize he : ofL (x :: l) = b at ha hm hm'
  cases b with
  | nil => exact absurd he (ofL_ne x l)
  | cons r k =>
    refine ⟨r, k, rfl, ?_⟩
    obtain ⟨h1, h2, h3⟩ := loF_facts (x :: l) x
    have h4 : loF x (x :: l) ∈ x :: l := by
      rcases h3 with h3 | h3
      · rw [h3]; simp
      · exact h3
    obtain ⟨q, hq, hqe⟩ := hm' _ h4
    have := asc_head ha q hq
    have := h2 _ (hm r (by simp))
    omega
theorem ofL_last (x : Int) (l : List Int) : ∃ r k, ofL (x :: l) = k ++ [r] ∧ r.1 = hiF x (x :: l) := by
  have ha := (ofL_facts (x :: l)).1
  have hm := fun r (h : r ∈ ofL (x :: l)) => ofL_mem h
  have hm' := fun v (h : v ∈ x :: l) => ofL_mem' h
  generalize he : ofL (x :: l) = b at ha hm hm'
  rcases snoc_cases b with rfl | ⟨k, r, rfl⟩
  · exact absurd he (ofL_ne x l)
  · refine ⟨r, k, rfl, ?_⟩
    obtain ⟨h1, h2, h3⟩ := hiF_facts (x :: l) x
    have h4 : hiF x (x :: l) ∈ x :: l := by
      rcases h3 with h3 | h3
      · rw [h3]; simp
      · exact h3
    obtain ⟨q, hq, hqe⟩ := hm' _ h4
    have := asc_last ha q hq
    have := h2 _ (hm r (by simp))
    omega
end Go.Bag

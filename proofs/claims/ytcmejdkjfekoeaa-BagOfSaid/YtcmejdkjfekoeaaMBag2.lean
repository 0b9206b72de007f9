/-
  BAGS, PLAIN, the second part. My own work.
-/
import Derived.Test.YtcmejdkjfekoeaaMBag
namespace Go.Bag
open Go.Pl

def encE (l : List Run) : List (List CV) := l.map encR

/-- a value behind all that are not above it -/
def moreL (l : List Run) (v n : Int) : List Run :=
  match l.getLast? with
  | some r => if r.1 = v then l.dropLast ++ [(r.1, r.2 + n)] else l ++ [(v, n)]
  | none => [(v, n)]

theorem moreL_nil (v n : Int) : moreL [] v n = [(v, n)] := rfl
theorem moreL_eq (l : List Run) (r : Run) (n : Int) : moreL (l ++ [r]) r.1 n = l ++ [(r.1, r.2 + n)] := by simp [moreL]
theorem moreL_ne (l : List Run) (r : Run) (v n : Int) (h : r.1 ≠ v) : moreL (l ++ [r]) v n = l ++ [r] ++ [(v, n)] := by simp [moreL, h]

theorem snoc_cases (l : List Run) : l = [] ∨ ∃ k r, l = k ++ [r] := by
  rcases List.eq_nil_or_concat l with h | ⟨k, r, h⟩
  · exact .inl h
  · exact .inr ⟨k, r, by simpa using h⟩


theorem sum_append : ∀ (l k : List Run), sum (l ++ k) = sum l + sum k
  | [], k => by simp [sum]
  | r :: l, k => by simp only [List.cons_append, sum, sum_append l k]; omega

theorem moreL_sum (l : List Run) (v n : Int) : sum (moreL l v n) = sum l + n := by
  rcases snoc_cases l with rfl | ⟨k, r, rfl⟩
  · simp [moreL_nil, sum]
  · by_cases hv : r.1 = v
    · subst hv; rw [moreL_eq, sum_append, sum_append]; simp only [sum]; omega
    · rw [moreL_ne _ _ _ _ hv, sum_append]; simp only [sum]; omega

theorem moreL_len (l : List Run) (v n : Int) : (moreL l v n).length ≤ l.length + 1 := by
  rcases snoc_cases l with rfl | ⟨k, r, rfl⟩
  · simp [moreL_nil]
  · by_cases hv : r.1 = v
    · subst hv; rw [moreL_eq]; simp
    · rw [moreL_ne _ _ _ _ hv]; simp

theorem moreL_pos {l : List Run} {v n : Int} (h : pos l) (hn : 1 ≤ n) : pos (moreL l v n) := by
  rcases snoc_cases l with rfl | ⟨k, r, rfl⟩
  · intro q hq; simp [moreL_nil] at hq; subst hq; exact hn
  · have hr := h r (by simp)
    by_cases hv : r.1 = v
    · subst hv; rw [moreL_eq]
      intro q hq
      rcases List.mem_append.mp hq with hq | hq
      · exact h q (by simp [hq])
      · simp at hq; subst hq; show 1 ≤ r.2 + n; omega
    · rw [moreL_ne _ _ _ _ hv]
      intro q hq
      rcases List.mem_append.mp hq with hq | hq
      · exact h q hq
      · simp at hq; subst hq; exact hn

theorem le_sum : ∀ {l : List Run}, pos l → ∀ q ∈ l, 1 ≤ q.2 ∧ q.2 ≤ sum l
  | [], _, q, hq => by simp at hq
  | r :: l, h, q, hq => by
    have hp : pos l := fun q hq => h q (by simp [hq])
    have h0 := sum_nonneg hp
    have h1 := h r (by simp)
    rcases List.mem_cons.mp hq with rfl | hq
    · simp only [sum]; omega
    · have := le_sum hp q hq
      simp only [sum]; omega

/-- all of two, in order -/
def merge : List Run → List Run → List Run → List Run
  | out, [], [] => out
  | out, [], s :: b => merge (moreL out s.1 s.2) [] b
  | out, r :: a, [] => merge (moreL out r.1 r.2) a []
  | out, r :: a, s :: b => if s.1 < r.1 then merge (moreL out s.1 s.2) (r :: a) b else merge (moreL out r.1 r.2) a (s :: b)
termination_by _ a b => a.length + b.length

def join (a b : List Run) : List Run × Bool := if good a = true ∧ good b = true ∧ sum a ≤ 1099511627776 - sum b then (merge [] a b, true) else ([], false)
end Go.Bag

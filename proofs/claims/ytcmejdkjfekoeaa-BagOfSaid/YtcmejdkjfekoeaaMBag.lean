/-
  BAGS, PLAIN: what the functions of package bag compute, of lists of pairs. No program in sight. My own work.
-/
import Derived.Test.YtcmejdkjfekoeaaPlDef
namespace Go.Bag
open Go.Pl

abbrev Run := Int × Int
def encR (r : Run) : List CV := [.int .i64 r.1, .int .i64 r.2]
def encL (l : List Run) : CV := .sl (l.map encR)
def cap : Int := 1099511627776

def goodFrom : Option Int → Int → List Run → Bool
  | _, _, [] => true
  | p, s, r :: l => !(p.any (fun a => decide (r.1 ≤ a))) && !(decide (r.2 < 1)) && !(decide (cap - s < r.2)) && goodFrom (some r.1) (s + r.2) l

def good (l : List Run) : Bool := goodFrom none 0 l

def sum : List Run → Int
  | [] => 0
  | r :: l => r.2 + sum l

def pos (l : List Run) : Prop := ∀ r ∈ l, 1 ≤ r.2

theorem sum_nonneg : ∀ {l : List Run}, pos l → 0 ≤ sum l
  | [], _ => by simp [sum]
  | r :: l, h => by
    have := h r (by simp)
    have := sum_nonneg (l := l) fun q hq => h q (by simp [hq])
    simp only [sum]; omega

theorem goodFrom_facts : ∀ {l : List Run} {p : Option Int} {s : Int}, s ≤ cap → goodFrom p s l = true → pos l ∧ s + sum l ≤ cap
  | [], _, s, hs, _ => ⟨fun r hr => by simp at hr, by simpa [sum] using hs⟩
  | r :: l, p, s, hs, h => by
    simp only [goodFrom, Bool.and_eq_true, Bool.not_eq_true', decide_eq_false_iff_not] at h
    obtain ⟨⟨⟨_, h1⟩, h2⟩, h3⟩ := h
    obtain ⟨g1, g2⟩ := goodFrom_facts (by omega) h3
    refine ⟨fun q hq => ?_, by simp only [sum]; omega⟩
    rcases List.mem_cons.mp hq with rfl | hq
    · omega
    · exact g1 q hq

theorem good_facts {l : List Run} (h : good l = true) : pos l ∧ sum l ≤ cap := by
  have := goodFrom_facts (by decide) h
  exact ⟨this.1, by simpa using this.2⟩

def has (l : List Run) (v : Int) : Int := match l.find? (fun r => r.1 == v) with | some r => r.2 | none => 0

theorem encR_len (l : List Run) : ∀ e ∈ l.map encR, e.length = 2 := by
  intro e he
  obtain ⟨r, _, rfl⟩ := List.mem_map.mp he
  rfl

theorem get_enc {l : List Run} {i : Nat} {r : Run} {rest : List Run} (h : l.drop i = r :: rest) : (l.map encR)[i]? = some (encR r) := by
  have : l[i]? = some r := by
    have := congrArg List.head? h
    simpa [List.head?_drop] using this
  simp [this]
theorem get_len {l : List Run} {i : Nat} {r : Run} {rest : List Run} (h : l.drop i = r :: rest) : i < l.length := by
  have := congrArg List.length h
  simp at this
  omega
theorem get_next {l : List Run} {i : Nat} {r : Run} {rest : List Run} (h : l.drop i = r :: rest) : l.drop (i + 1) = rest := by
  have := congrArg List.tail h
  simpa [List.tail_drop] using this
theorem get_end {l : List Run} {i : Nat} (h : l.drop i = []) (hi : i ≤ l.length) : i = l.length := by
  have := List.drop_eq_nil_iff.mp h
  omega

/-- all values, each as often as it is there -/
def wsum : List Run → Int
  | [] => 0
  | r :: l => r.1 * r.2 + wsum l

def ranged (l : List Run) : Prop := ∀ r ∈ l, (-9223372036854775808 ≤ r.1 ∧ r.1 ≤ 9223372036854775807) ∧ (-9223372036854775808 ≤ r.2 ∧ r.2 ≤ 9223372036854775807)

theorem mul_bound {a n : Int} (h : -9223372036854775808 ≤ a ∧ a ≤ 9223372036854775807) (hn : 0 ≤ n) : -(9223372036854775808 * n) ≤ a * n ∧ a * n ≤ 9223372036854775808 * n := by
  have h1 : a * n ≤ 9223372036854775808 * n := Int.mul_le_mul_of_nonneg_right (by omega) hn
  have h2 : (-9223372036854775808) * n ≤ a * n := Int.mul_le_mul_of_nonneg_right (by omega) hn
  omega

theorem wsum_bound : ∀ {l : List Run}, pos l → ranged l → -(9223372036854775808 * sum l) ≤ wsum l ∧ wsum l ≤ 9223372036854775808 * sum l
  | [], _, _ => by simp [wsum, sum]
  | r :: l, h, hr => by
    have h1 := h r (by simp)
    have h2 := wsum_bound (l := l) (fun q hq => h q (by simp [hq])) (fun q hq => hr q (by simp [hq]))
    have h3 := mul_bound (hr r (by simp)).1 (show 0 ≤ r.2 by omega)
    simp only [wsum, sum]
    omega
end Go.Bag

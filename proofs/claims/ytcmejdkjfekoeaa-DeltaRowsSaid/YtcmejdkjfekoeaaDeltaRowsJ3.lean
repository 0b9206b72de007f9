/- Part of the proof of DeltaRows: lemmas. -/
import Derived.Test.YtcmejdkjfekoeaaDRowsS1
import Derived.Test.YtcmejdkjfekoeaaDRowsS5
import Derived.Test.YtcmejdkjfekoeaaDeltaRowsJ2
import Derived.Shelf.SlIterI.Sorted
import Derived.Shelf.SortM.Plain
import Derived.Shelf.SortM.SortNone
import Derived.Test.YtcmejdkjfekoeaaProg
import Derived.RangeFuncBox
import Derived.RangeFuncLeaves
import Derived.Shelf.Abstract
import Derived.WalkKit
import Derived.OwnWalkIn
import Derived.TacticsInMore
import Derived.LoopNIn
import Derived.LoopIn
set_option linter.unusedVariables false
set_option linter.unusedSimpArgs false
/-
  BAGS, PLAIN: what the functions of package bag compute, of lists of pairs. No program in sight. My own work.
-/
namespace Go.Bag
open Go.Pl
abbrev Run := Int × Int
def encR (r : Run) : List CV := [.int .i64 r.1, .int .i64 r.2]
def encL (l : List Run) : CV := .sl (l.map encR)
def cap : Int := 1099511627776
def goodFrom : Option Int → Int → List Run → Bool
  | _, _, [] => true
  | p, s, r :: l => !(p.any (fun a => decide (r.1 ≤ a))) && !(decide (r.2 < 1)) && !(decide (cap - s < r.2)) && goodFrom (some r.1) (s + r.2) l
def good (l : List Run) : Bool := goodFrom none 0 l
def sum : List Run → Int
  | [] => 0
  | r :: l => r.2 + sum l
def pos (l : List Run) : Prop := ∀ r ∈ l, 1 ≤ r.2
theorem sum_nonneg : ∀ {l : List Run}, pos l → 0 ≤ sum l
  | [], _ => by simp [sum]
  | r :: l, h => by
    have := h r (by simp)
    have := sum_nonneg (l := l) fun q hq => h q (by simp [hq])
    simp only [sum]; omega
theorem goodFrom_facts : ∀ {l : List Run} {p : Option Int} {s : Int}, s ≤ cap → goodFrom p s l = true → pos l ∧ s + sum l ≤ cap
  | [], _, s, hs, _ => ⟨fun r hr => by simp at hr, by simpa [sum] using hs⟩
  | r :: l, p, s, hs, h => by
    simp only [goodFrom, Bool.and_eq_true, Bool.not_eq_true', decide_eq_false_iff_not] at h
    obtain ⟨⟨⟨_, h1⟩, h2⟩, h3⟩ := h
    obtain ⟨g1, g2⟩ := goodFrom_facts (by omega) h3
    refine ⟨fun q hq => ?_, by simp only [sum]; omega⟩
    rcases List.mem_cons.mp hq with rfl | hq
    · omega
    · exact g1 q hq
theorem good_facts {l : List Run} (h : good l = true) : pos l ∧ sum l ≤ cap := by
  have := goodFrom_facts (by decide) h
  exact ⟨this.1, by simpa using this.2⟩
def has (l : List Run) (v : Int) : Int := match l.find? (fun r => r.1 == v) with | some r => r.2 | none => 0
theorem encR_len (l : List Run) : ∀ e ∈ l.map encR, e.length = 2 := by
  intro e he
  obtain ⟨r, _, rfl⟩ := List.mem_map.mp he
  rfl
theorem get_enc {l : List Run} {i : Nat} {r : Run} {rest : List Run} (h : l.drop i = r :: rest) : (l.map encR)[i]? = some (encR r) := by
  have : l[i]? = some r := by
    have := congrArg List.head? h
    simpa [List.head?_drop] using this
  simp [this]
theorem get_len {l : List Run} {i : Nat} {r : Run} {rest : List Run} (h : l.drop i = r :: rest) : i < l.length := by
  have := congrArg List.length h
  simp at this
  omega
theorem get_next {l : List Run} {i : Nat} {r : Run} {rest : List Run} (h : l.drop i = r :: rest) : l.drop (i + 1) = rest := by
  have := congrArg List.tail h
  simpa [List.tail_drop] using this
theorem get_end {l : List Run} {i : Nat} (h : l.drop i = []) (hi : i ≤ l.length) : i = l.length := by
  have := List.drop_eq_nil_iff.mp h
  omega
def wsum : List Run → Int
  | [] => 0
  | r :: l => r.1 * r.2 + wsum l
def ranged (l : List Run) : Prop := ∀ r ∈ l, (-9223372036854775808 ≤ r.1 ∧ r.1 ≤ 9223372036854775807) ∧ (-9223372036854775808 ≤ r.2 ∧ r.2 ≤ 9223372036854775807)
theorem mul_bound {a n : Int} (h : -9223372036854775808 ≤ a ∧ a ≤ 9223372036854775807) (hn : 0 ≤ n) : -(9223372036854775808 * n) ≤ a * n ∧ a * n ≤ 9223372036854775808 * n := by
  have h1 : a * n ≤ 9223372036854775808 * n := Int.mul_le_mul_of_nonneg_right (by omega) hn
  have h2 : (-9223372036854775808) * n ≤ a * n := Int.mul_le_mul_of_nonneg_right (by omega) hn
  omega
theorem wsum_bound : ∀ {l : List Run}, pos l → ranged l → -(9223372036854775808 * sum l) ≤ wsum l ∧ wsum l ≤ 9223372036854775808 * sum l
  | [], _, _ => by simp [wsum, sum]
  | r :: l, h, hr => by
    have h1 := h r (by simp)
    have h2 := wsum_bound (l := l) (fun q hq => h q (by simp [hq])) (fun q hq => hr q (by simp [hq]))
    have h3 := mul_bound (hr r (by simp)).1 (show 0 ≤ r.2 by omega)
    simp only [wsum, sum]
    omega
end Go.Bag
/-
  BAGS, PLAIN, the second part. My own work.
-/
namespace Go.Bag
open Go.Pl
def encE (l : List Run) : List (List CV) := l.map encR
def moreL (l : List Run) (v n : Int) : List Run :=
  match l.getLast? with
  | some r => if r.1 = v then l.dropLast ++ [(r.1, r.2 + n)] else l ++ [(v, n)]
  | none => [(v, n)]
theorem moreL_nil (v n : Int) : moreL [] v n = [(v, n)] := rfl
theorem moreL_eq (l : List Run) (r : Run) (n : Int) : moreL (l ++ [r]) r.1 n = l ++ [(r.1, r.2 + n)] := by simp [moreL]
theorem moreL_ne (l : List Run) (r : Run) (v n : Int) (h : r.1 ≠ v) : moreL (l ++ [r]) v n = l ++ [r] ++ [(v, n)] := by simp [moreL, h]
theorem snoc_cases (l : List Run) : l = [] ∨ ∃ k r, l = k ++ [r] := by
  rcases List.eq_nil_or_concat l with h | ⟨k, r, h⟩
  · exact .inl h
  · exact .inr ⟨k, r, by simpa using h⟩
theorem sum_append : ∀ (l k : List Run), sum (l ++ k) = sum l + sum k
  | [], k => by simp [sum]
  | r :: l, k => by simp only [List.cons_append, sum, sum_append l k]; omega
theorem moreL_sum (l : List Run) (v n : Int) : sum (moreL l v n) = sum l + n := by
  rcases snoc_cases l with rfl | ⟨k, r, rfl⟩
  · simp [moreL_nil, sum]
  · by_cases hv : r.1 = v
    · subst hv; rw [moreL_eq, sum_append, sum_append]; simp only [sum]; omega
    · rw [moreL_ne _ _ _ _ hv, sum_append]; simp only [sum]; omega
theorem moreL_len (l : List Run) (v n : Int) : (moreL l v n).length ≤ l.length + 1 := by
  rcases snoc_cases l with rfl | ⟨k, r, rfl⟩
  · simp [moreL_nil]
  · by_cases hv : r.1 = v
    · subst hv; rw [moreL_eq]; simp
    · rw [moreL_ne _ _ _ _ hv]; simp
theorem moreL_pos {l : List Run} {v n : Int} (h : pos l) (hn : 1 ≤ n) : pos (moreL l v n) := by
  rcases snoc_cases l with rfl | ⟨k, r, rfl⟩
  · intro q hq; simp [moreL_nil] at hq; subst hq; exact hn
  · have hr := h r (by simp)
    by_cases hv : r.1 = v
    · subst hv; rw [moreL_eq]
      intro q hq
      rcases List.mem_append.mp hq with hq | hq
      · exact h q (by simp [hq])
      · simp at hq; subst hq; show 1 ≤ r.2 + n; omega
    · rw [moreL_ne _ _ _ _ hv]
      intro q hq
      rcases List.mem_append.mp hq with hq | hq
      · exact h q hq
      · simp at hq; subst hq; exact hn
theorem le_sum : ∀ {l : List Run}, pos l → ∀ q ∈ l, 1 ≤ q.2 ∧ q.2 ≤ sum l
  | [], _, q, hq => by simp at hq
  | r :: l, h, q, hq => by
    have hp : pos l := fun q hq => h q (by simp [hq])
    have h0 := sum_nonneg hp
    have h1 := h r (by simp)
    rcases List.mem_cons.mp hq with rfl | hq
    · simp only [sum]; omega
    · have := le_sum hp q hq
      simp only [sum]; omega
def merge : List Run → List Run → List Run → List Run
  | out, [], [] => out
  | out, [], s :: b => merge (moreL out s.1 s.2) [] b
  | out, r :: a, [] => merge (moreL out r.1 r.2) a []
  | out, r :: a, s :: b => if s.1 < r.1 then merge (moreL out s.1 s.2) (r :: a) b else merge (moreL out r.1 r.2) a (s :: b)
termination_by _ a b => a.length + b.length
def join (a b : List Run) : List Run × Bool := if good a = true ∧ good b = true ∧ sum a ≤ 1099511627776 - sum b then (merge [] a b, true) else ([], false)
end Go.Bag
/-
  BAGS, PLAIN, the third part: one without the other. My own work.
-/
namespace Go.Bag
open Go.Pl
def takeB (r : Run) (b : List Run) : Int × List Run :=
  match b with
  | s :: b' => if s.1 = r.1 then (r.2 - s.2, b') else (r.2, s :: b')
  | [] => (r.2, [])
def minusL : List Run → List Run → List Run → Option (List Run × List Run)
  | out, [], b => some (out, b)
  | out, r :: a, b => if (takeB r b).1 < 0 then none else minusL (if 0 < (takeB r b).1 then out ++ [(r.1, (takeB r b).1)] else out) a (takeB r b).2
def minus (a b : List Run) : List Run × Bool :=
  if good a = true ∧ good b = true then (match minusL [] a b with | some (o, []) => (o, true) | _ => ([], false)) else ([], false)
end Go.Bag
/-
  BAGS, PLAIN, the fourth part: the document's laying of a value. My own work.
-/
namespace Go.Bag
open Go.Pl
def keepR (x : Run) : List Run := if x.2 ≠ 0 then [x] else []
def layB (v n : Int) : Bool → List Run → List Run × Bool
  | d, [] => ([], d)
  | d, x :: l =>
    if d = false ∧ v ≤ x.1 then
      (if v < x.1 then ([(v, n)] ++ (keepR x ++ (layB v n true l).1), (layB v n true l).2)
       else (keepR (x.1, x.2 + n) ++ (layB v n true l).1, (layB v n true l).2))
    else (keepR x ++ (layB v n d l).1, (layB v n d l).2)
def lay (l : List Run) (v n : Int) : List Run := if (layB v n false l).2 then (layB v n false l).1 else (layB v n false l).1 ++ [(v, n)]
end Go.Bag
/-
  BAGS, PLAIN, the fifth part: what the functions compute is true. A bag is told by how often each value is there. My own work.
-/
namespace Go.Bag
open Go.Pl
def asc (l : List Run) : Prop := l.Pairwise fun r s => r.1 < s.1
def cnt : List Run → Int → Int
  | [], _ => 0
  | r :: l, v => (if r.1 = v then r.2 else 0) + cnt l v
theorem cnt_append : ∀ (l k : List Run) (v : Int), cnt (l ++ k) v = cnt l v + cnt k v
  | [], k, v => by simp [cnt]
  | r :: l, k, v => by simp only [List.cons_append, cnt, cnt_append l k v]; omega
theorem cnt_none : ∀ {l : List Run} {v : Int}, (∀ r ∈ l, r.1 ≠ v) → cnt l v = 0
  | [], _, _ => rfl
  | r :: l, v, h => by simp [cnt, h r (by simp), cnt_none (l := l) (v := v) fun q hq => h q (by simp [hq])]
theorem cnt_nonneg : ∀ {l : List Run} (v : Int), pos l → 0 ≤ cnt l v
  | [], _, _ => by simp [cnt]
  | r :: l, v, h => by
    have := h r (by simp)
    have := cnt_nonneg (l := l) v fun q hq => h q (by simp [hq])
    simp only [cnt]; split <;> omega
theorem cnt_pos : ∀ {l : List Run} {r : Run}, pos l → r ∈ l → r.2 ≤ cnt l r.1
  | [], r, _, hr => by simp at hr
  | q :: l, r, h, hr => by
    have hp : pos l := fun q hq => h q (by simp [hq])
    have h1 := h q (by simp)
    rcases List.mem_cons.mp hr with rfl | hr
    · have := cnt_nonneg r.1 hp
      simp only [cnt, if_true]; omega
    · have := cnt_pos hp hr
      simp only [cnt]; split <;> omega
theorem asc_cons {r : Run} {l : List Run} : asc (r :: l) ↔ (∀ q ∈ l, r.1 < q.1) ∧ asc l := by simp [asc]
theorem ext : ∀ {a b : List Run}, asc a → asc b → pos a → pos b → (∀ v, cnt a v = cnt b v) → a = b
  | [], [], _, _, _, _, _ => rfl
  | [], s :: b, _, _, _, hb, h => by
    have := cnt_pos hb (r := s) (by simp)
    have h1 := h s.1
    have := hb s (by simp)
    simp only [cnt] at h1 this
    simp only [cnt] at *
    omega
  | r :: a, [], _, _, ha, _, h => by
    have := cnt_pos ha (r := r) (by simp)
    have h1 := h r.1
    have := ha r (by simp)
    simp only [cnt] at *
    omega
  | r :: a, s :: b, ra, sb, ha, hb, h => by
    obtain ⟨h1, h2⟩ := asc_cons.mp ra
    obtain ⟨h3, h4⟩ := asc_cons.mp sb
    have pr := ha r (by simp)
    have ps := hb s (by simp)
    have pa : pos a := fun q hq => ha q (by simp [hq])
    have pb : pos b := fun q hq => hb q (by simp [hq])
    have e : r.1 = s.1 := by
      rcases Int.lt_trichotomy r.1 s.1 with hlt | he | hlt
      · have := h r.1
        have z1 : cnt (s :: b) r.1 = 0 := cnt_none fun q hq => by
          rcases List.mem_cons.mp hq with rfl | hq
          · omega
          · have := h3 q hq; omega
        have := cnt_pos ha (r := r) (by simp)
        omega
      · exact he
      · have := h s.1
        have z1 : cnt (r :: a) s.1 = 0 := cnt_none fun q hq => by
          rcases List.mem_cons.mp hq with rfl | hq
          · omega
          · have := h1 q hq; omega
        have := cnt_pos hb (r := s) (by simp)
        omega
    have ea : cnt a r.1 = 0 := cnt_none fun q hq => by have := h1 q hq; omega
    have eb : cnt b s.1 = 0 := cnt_none fun q hq => by have := h3 q hq; omega
    have e2 : r.2 = s.2 := by
      have := h r.1
      simp only [cnt, e, if_true] at this
      rw [e] at ea
      omega
    have er : r = s := Prod.ext e e2
    subst er
    rw [ext (a := a) (b := b) h2 h4 pa pb fun v => by
      have := h v
      simp only [cnt] at this
      omega]
/-! ### may be -/
theorem goodFrom_asc : ∀ {l : List Run} {p : Option Int} {s : Int}, goodFrom p s l = true → asc l ∧ ∀ a, p = some a → ∀ r ∈ l, a < r.1
  | [], p, s, _ => ⟨by simp [asc], fun a _ r hr => by simp at hr⟩
  | r :: l, p, s, h => by
    simp only [goodFrom, Bool.and_eq_true, Bool.not_eq_true', decide_eq_false_iff_not] at h
    obtain ⟨⟨⟨h0, h1⟩, h2⟩, h3⟩ := h
    obtain ⟨g1, g2⟩ := goodFrom_asc h3
    refine ⟨asc_cons.mpr ⟨g2 r.1 rfl, g1⟩, fun a ha q hq => ?_⟩
    subst ha
    have h0' : a < r.1 := by simpa using h0
    rcases List.mem_cons.mp hq with rfl | hq
    · exact h0'
    · have := g2 r.1 rfl q hq; omega
theorem goodFrom_mk : ∀ {l : List Run} {p : Option Int} {s : Int}, asc l → pos l → s + sum l ≤ cap → (∀ a, p = some a → ∀ r ∈ l, a < r.1) → goodFrom p s l = true
  | [], _, _, _, _, _, _ => rfl
  | r :: l, p, s, ha, hp, hs, hf => by
    obtain ⟨h1, h2⟩ := asc_cons.mp ha
    have hpl : pos l := fun q hq => hp q (by simp [hq])
    have := sum_nonneg hpl
    have h3 := hp r (by simp)
    simp only [sum] at hs
    have h4 : (p.any fun a => decide (r.1 ≤ a)) = false := by
      cases p with
      | none => rfl
      | some a =>
        have := hf a rfl r (by simp)
        simp; omega
    simp only [goodFrom, h4, Bool.not_false, Bool.true_and, Bool.and_eq_true, Bool.not_eq_true', decide_eq_false_iff_not]
    refine ⟨⟨by omega, by omega⟩, goodFrom_mk h2 hpl (by omega) fun a ha q hq => ?_⟩
    cases ha
    exact h1 q hq
theorem good_iff {l : List Run} : good l = true ↔ asc l ∧ pos l ∧ sum l ≤ cap := by
  constructor
  · intro h
    exact ⟨(goodFrom_asc h).1, good_facts h⟩
  · intro ⟨h1, h2, h3⟩
    exact goodFrom_mk h1 h2 (by simpa using h3) fun a ha => by cases ha
theorem has_cnt : ∀ {l : List Run} (v : Int), asc l → has l v = cnt l v
  | [], v, _ => by simp [has, cnt]
  | r :: l, v, h => by
    obtain ⟨h1, h2⟩ := asc_cons.mp h
    have ih := has_cnt (l := l) v h2
    by_cases e : r.1 = v
    · have : cnt l v = 0 := cnt_none fun q hq => by have := h1 q hq; omega
      simp [has, cnt, e, this]
    · simp only [has, List.find?_cons] at ih ⊢
      have : (r.1 == v) = false := by simpa using e
      simp only [this, cnt, if_neg e, ih]; omega
/-! ### a value more -/
def upto (v : Int) (l : List Run) : Prop := ∀ r ∈ l, r.1 ≤ v
theorem moreL_cnt (l : List Run) (v n u : Int) : cnt (moreL l v n) u = cnt l u + if v = u then n else 0 := by
  rcases snoc_cases l with rfl | ⟨k, r, rfl⟩
  · simp [moreL_nil, cnt]
  · by_cases hv : r.1 = v
    · subst hv; rw [moreL_eq, cnt_append, cnt_append]; simp only [cnt]; split <;> omega
    · rw [moreL_ne _ _ _ _ hv, cnt_append]; simp only [cnt]; omega
theorem asc_snoc {l : List Run} {r : Run} : asc (l ++ [r]) ↔ asc l ∧ ∀ q ∈ l, q.1 < r.1 := by
  simp [asc, List.pairwise_append]
theorem moreL_asc {l : List Run} {v n : Int} (h : asc l) (hu : upto v l) : asc (moreL l v n) := by
  rcases snoc_cases l with rfl | ⟨k, r, rfl⟩
  · simp [moreL_nil, asc]
  · by_cases hv : r.1 = v
    · subst hv; rw [moreL_eq]; exact asc_snoc.mpr ⟨(asc_snoc.mp h).1, fun q hq => (asc_snoc.mp h).2 q hq⟩
    · rw [moreL_ne _ _ _ _ hv]
      have h1 := hu r (by simp)
      refine asc_snoc.mpr ⟨h, fun q hq => ?_⟩
      rcases List.mem_append.mp hq with hq | hq
      · have := (asc_snoc.mp h).2 q hq
        show q.1 < v
        omega
      · simp at hq; subst hq; show q.1 < v; omega
theorem moreL_upto {l : List Run} {v n : Int} (hu : upto v l) : upto v (moreL l v n) := by
  rcases snoc_cases l with rfl | ⟨k, r, rfl⟩
  · intro q hq; simp [moreL_nil] at hq; subst hq; exact Int.le_refl _
  · by_cases hv : r.1 = v
    · subst hv; rw [moreL_eq]
      intro q hq
      rcases List.mem_append.mp hq with hq | hq
      · exact hu q (by simp [hq])
      · simp at hq; subst hq; exact Int.le_refl _
    · rw [moreL_ne _ _ _ _ hv]
      intro q hq
      rcases List.mem_append.mp hq with hq | hq
      · exact hu q hq
      · simp at hq; subst hq; exact Int.le_refl _
theorem upto_le {l : List Run} {v u : Int} (h : upto v l) (hv : v ≤ u) : upto u l := fun r hr => by have := h r hr; omega
/-! ### all of two -/
theorem merge_facts : ∀ (m : Nat) (out a b : List Run), a.length + b.length = m → asc out → asc a → asc b → pos out → pos a → pos b → (∀ r ∈ a, upto r.1 out) → (∀ r ∈ b, upto r.1 out) →
    asc (merge out a b) ∧ pos (merge out a b) ∧ (∀ v, cnt (merge out a b) v = cnt out v + cnt a v + cnt b v) ∧ sum (merge out a b) = sum out + sum a + sum b := by
  intro m
  induction m with
  | zero =>
    intro out a b hm ho ha hb po pa pb ua ub
    obtain rfl : a = [] := List.eq_nil_of_length_eq_zero (by omega)
    obtain rfl : b = [] := List.eq_nil_of_length_eq_zero (by omega)
    simp [merge, cnt, sum, ho, po]
  | succ m ih =>
    intro out a b hm ho ha hb po pa pb ua ub
    have tail : ∀ {r : Run} {l : List Run}, asc (r :: l) → pos (r :: l) → asc l ∧ pos l ∧ 1 ≤ r.2 ∧ ∀ q ∈ l, r.1 < q.1 := fun h k =>
      ⟨(asc_cons.mp h).2, fun q hq => k q (by simp [hq]), k _ (by simp), (asc_cons.mp h).1⟩
    match a, b, hm with
    | [], s :: b, hm =>
      obtain ⟨h1, h2, h3, h4⟩ := tail hb pb
      have hu := ub s (by simp)
      have := ih (moreL out s.1 s.2) [] b (by simpa using hm) (moreL_asc ho hu) ha h1 (moreL_pos po h3) pa h2 (fun r hr => by simp at hr)
        (fun r hr => upto_le (moreL_upto hu) (by have := h4 r hr; omega))
      rw [show merge out [] (s :: b) = merge (moreL out s.1 s.2) [] b by simp only [merge]]
      refine ⟨this.1, this.2.1, fun v => ?_, ?_⟩
      · rw [this.2.2.1, moreL_cnt]; simp only [cnt]; omega
      · rw [this.2.2.2, moreL_sum]; simp only [sum]; omega
    | r :: a, [], hm =>
      obtain ⟨h1, h2, h3, h4⟩ := tail ha pa
      have hu := ua r (by simp)
      have := ih (moreL out r.1 r.2) a [] (by simpa using hm) (moreL_asc ho hu) h1 hb (moreL_pos po h3) h2 pb
        (fun q hq => upto_le (moreL_upto hu) (by have := h4 q hq; omega)) (fun r hr => by simp at hr)
      rw [show merge out (r :: a) [] = merge (moreL out r.1 r.2) a [] by simp only [merge]]
      refine ⟨this.1, this.2.1, fun v => ?_, ?_⟩
      · rw [this.2.2.1, moreL_cnt]; simp only [cnt]; omega
      · rw [this.2.2.2, moreL_sum]; simp only [sum]; omega
    | r :: a, s :: b, hm =>
      obtain ⟨h1, h2, h3, h4⟩ := tail ha pa
      obtain ⟨k1, k2, k3, k4⟩ := tail hb pb
      by_cases hlt : s.1 < r.1
      · have hu := ub s (by simp)
        have := ih (moreL out s.1 s.2) (r :: a) b (by simp at hm ⊢; omega) (moreL_asc ho hu) ha k1 (moreL_pos po k3) pa k2
          (fun q hq => upto_le (moreL_upto hu) (by
            rcases List.mem_cons.mp hq with rfl | hq
            · omega
            · have := h4 q hq; omega))
          (fun q hq => upto_le (moreL_upto hu) (by have := k4 q hq; omega))
        rw [show merge out (r :: a) (s :: b) = merge (moreL out s.1 s.2) (r :: a) b by rw [merge]; simp [hlt]]
        refine ⟨this.1, this.2.1, fun v => ?_, ?_⟩
        · rw [this.2.2.1, moreL_cnt]; simp only [cnt]; omega
        · rw [this.2.2.2, moreL_sum]; simp only [sum]; omega
      · have hu := ua r (by simp)
        have := ih (moreL out r.1 r.2) a (s :: b) (by simp at hm ⊢; omega) (moreL_asc ho hu) h1 hb (moreL_pos po h3) h2 pb
          (fun q hq => upto_le (moreL_upto hu) (by have := h4 q hq; omega))
          (fun q hq => upto_le (moreL_upto hu) (by
            rcases List.mem_cons.mp hq with rfl | hq
            · omega
            · have := k4 q hq; omega))
        rw [show merge out (r :: a) (s :: b) = merge (moreL out r.1 r.2) a (s :: b) by rw [merge]; simp [hlt]]
        refine ⟨this.1, this.2.1, fun v => ?_, ?_⟩
        · rw [this.2.2.1, moreL_cnt]; simp only [cnt]; omega
        · rw [this.2.2.2, moreL_sum]; simp only [sum]; omega
/-! ### one without the other -/
theorem minusL_facts : ∀ (a out b o k : List Run), minusL out a b = some (o, k) → asc out → asc a → asc b → pos out → pos a → pos b → (∀ r ∈ a, ∀ q ∈ out, q.1 < r.1) →
    asc o ∧ pos o ∧ (∀ r ∈ k, r ∈ b) ∧ (∀ v, cnt o v + cnt b v = cnt out v + cnt a v + cnt k v)
  | [], out, b, o, k, h, ho, ha, hb, po, pa, pb, hu => by
    simp only [minusL] at h
    obtain ⟨rfl, rfl⟩ := Prod.mk.inj (Option.some.inj h)
    exact ⟨ho, po, fun r hr => hr, fun v => by simp [cnt]⟩
  | r :: a, out, b, o, k, h, ho, ha, hb, po, pa, pb, hu => by
    obtain ⟨h1, h2⟩ := asc_cons.mp ha
    have pa' : pos a := fun q hq => pa q (by simp [hq])
    have pr := pa r (by simp)
    simp only [minusL] at h
    split at h
    · cases h
    · rename_i hge
      -- what is taken of 'b'
      have tk : asc (takeB r b).2 ∧ pos (takeB r b).2 ∧ (∀ q ∈ (takeB r b).2, q ∈ b) ∧ ∀ v, cnt (takeB r b).2 v = cnt b v - if r.1 = v then r.2 - (takeB r b).1 else 0 := by
        cases b with
        | nil => simp [takeB, asc, pos, cnt]
        | cons s b =>
          obtain ⟨k1, k2⟩ := asc_cons.mp hb
          by_cases e : s.1 = r.1
          · simp only [takeB, if_pos e]
            refine ⟨k2, fun q hq => pb q (by simp [hq]), fun q hq => by simp [hq], fun v => ?_⟩
            simp only [cnt, e]; split <;> omega
          · simp only [takeB, if_neg e]
            exact ⟨hb, pb, fun q hq => hq, fun v => by simp⟩
      obtain ⟨t1, t2, t3, t4⟩ := tk
      by_cases hp : 0 < (takeB r b).1
      · rw [if_pos hp] at h
        have hur : ∀ q ∈ out, q.1 < r.1 := hu r (by simp)
        have := minusL_facts a (out ++ [(r.1, (takeB r b).1)]) _ o k h (asc_snoc.mpr ⟨ho, hur⟩) h2 t1
          (fun q hq => by
            rcases List.mem_append.mp hq with hq | hq
            · exact po q hq
            · simp at hq; subst hq; show 1 ≤ (takeB r b).1; omega) pa' t2
          (fun q hq p hp => by
            rcases List.mem_append.mp hp with hp | hp
            · exact hu q (by simp [hq]) p hp
            · simp at hp; subst hp; exact h1 q hq)
        refine ⟨this.1, this.2.1, fun q hq => t3 q (this.2.2.1 q hq), fun v => ?_⟩
        have h5 := this.2.2.2 v
        rw [t4, cnt_append] at h5
        simp only [cnt] at h5 ⊢
        split at h5 <;> simp_all <;> omega
      · rw [if_neg hp] at h
        have h0 : (takeB r b).1 = 0 := by omega
        have := minusL_facts a out _ o k h ho h2 t1 po pa' t2 (fun q hq p hp => hu q (by simp [hq]) p hp)
        refine ⟨this.1, this.2.1, fun q hq => t3 q (this.2.2.1 q hq), fun v => ?_⟩
        have h5 := this.2.2.2 v
        rw [t4, h0] at h5
        simp only [cnt] at h5 ⊢
        split at h5 <;> simp_all <;> omega
def sub (b a : List Run) : Prop := ∀ v, cnt b v ≤ cnt a v
theorem minusL_cons (out : List Run) (r : Run) (a b : List Run) : minusL out (r :: a) b = if (takeB r b).1 < 0 then none else minusL (if 0 < (takeB r b).1 then out ++ [(r.1, (takeB r b).1)] else out) a (takeB r b).2 := by
  simp only [minusL]
theorem minusL_ok : ∀ (a out b : List Run), asc a → asc b → pos a → pos b → sub b a → ∃ o, minusL out a b = some (o, [])
  | [], out, b, ha, hb, pa, pb, h => by
    cases b with
    | nil => exact ⟨out, rfl⟩
    | cons s b =>
      have := h s.1
      have h1 := cnt_pos pb (r := s) (by simp)
      have h2 := pb s (by simp)
      have h3 : cnt [] s.1 = 0 := rfl
      omega
  | r :: a, out, b, ha, hb, pa, pb, h => by
    obtain ⟨h1, h2⟩ := asc_cons.mp ha
    have pa' : pos a := fun q hq => pa q (by simp [hq])
    have ea : cnt a r.1 = 0 := cnt_none fun q hq => by have := h1 q hq; omega
    cases b with
    | nil =>
      have pr := pa r (by simp)
      rw [minusL_cons, show takeB r [] = (r.2, []) from rfl, if_neg (by show ¬ r.2 < 0; omega)]
      exact minusL_ok a _ [] h2 hb pa' pb fun v => by simpa [cnt] using cnt_nonneg v pa'
    | cons s b =>
      obtain ⟨k1, k2⟩ := asc_cons.mp hb
      have pb' : pos b := fun q hq => pb q (by simp [hq])
      have ps := pb s (by simp)
      by_cases e : s.1 = r.1
      · have hs : s.2 ≤ r.2 := by
          have := h s.1
          have eb : cnt b s.1 = 0 := cnt_none fun q hq => by have := k1 q hq; omega
          rw [← e] at ea
          simp only [cnt, ea, eb, e, if_true] at this
          rw [e] at eb ea
          omega
        rw [minusL_cons, show takeB r (s :: b) = (r.2 - s.2, b) by simp [takeB, e], if_neg (by show ¬ r.2 - s.2 < 0; omega)]
        refine minusL_ok a _ b h2 k2 pa' pb' fun v => ?_
        have := h v
        simp only [cnt, e] at this
        by_cases ev : r.1 = v
        · subst ev
          have eb : cnt b r.1 = 0 := cnt_none fun q hq => by have := k1 q hq; omega
          rw [ea, eb]; exact Int.le_refl _
        · simpa [ev] using this
      · have pr := pa r (by simp)
        rw [minusL_cons, show takeB r (s :: b) = (r.2, s :: b) by simp [takeB, e], if_neg (by show ¬ r.2 < 0; omega)]
        refine minusL_ok a _ (s :: b) h2 hb pa' pb fun v => ?_
        have := h v
        by_cases ev : r.1 = v
        · subst ev
          -- 's' is above 'r', or it is not there at all
          have hlt : r.1 < s.1 := by
            rcases Int.lt_or_le r.1 s.1 with h5 | h5
            · exact h5
            · exfalso
              have z : cnt (r :: a) s.1 = 0 := cnt_none fun q hq => by
                rcases List.mem_cons.mp hq with rfl | hq
                · omega
                · have := h1 q hq; omega
              have := h s.1
              have := cnt_pos pb (r := s) (by simp)
              omega
          have z : cnt (s :: b) r.1 = 0 := cnt_none fun q hq => by
            rcases List.mem_cons.mp hq with rfl | hq
            · omega
            · have := k1 q hq; omega
          rw [z]; exact cnt_nonneg _ pa'
        · simpa [cnt, ev] using this
theorem minus_facts {a b : List Run} (ga : good a = true) (gb : good b = true) (h : sub b a) : ∃ o, minus a b = (o, true) ∧ asc o ∧ pos o ∧ ∀ v, cnt o v = cnt a v - cnt b v := by
  obtain ⟨a1, a2, a3⟩ := good_iff.mp ga
  obtain ⟨b1, b2, b3⟩ := good_iff.mp gb
  obtain ⟨o, ho⟩ := minusL_ok a [] b a1 b1 a2 b2 h
  have := minusL_facts a [] b o [] ho (by simp [asc]) a1 b1 (fun q hq => by simp at hq) a2 b2 (fun r _ q hq => by simp at hq)
  refine ⟨o, by simp [minus, ga, gb, ho], this.1, this.2.1, fun v => ?_⟩
  have := this.2.2.2 v
  simp only [cnt] at this
  omega
theorem minus_no {a b : List Run} (h : ¬ sub b a) : minus a b = ([], false) := by
  unfold minus
  split
  · rename_i hg
    obtain ⟨a1, a2, a3⟩ := good_iff.mp hg.1
    obtain ⟨b1, b2, b3⟩ := good_iff.mp hg.2
    split
    · rename_i o ho
      have := minusL_facts a [] b o [] ho (by simp [asc]) a1 b1 (fun q hq => by simp at hq) a2 b2 (fun r _ q hq => by simp at hq)
      exact absurd (fun v => by
        have h1 := this.2.2.2 v
        have h2 := cnt_nonneg v this.2.1
        simp only [cnt] at h1
        omega) h
    · rfl
  · rfl
/-! ### the bag of values -/
def ofS : List Run → List Int → List Run
  | out, [] => out
  | out, v :: l => ofS (moreL out v 1) l
def srt (l : List Int) : List Int := l.mergeSort fun x y => decide (x ≤ y)
def ofL (l : List Int) : List Run := ofS [] (srt l)
def num (l : List Int) (v : Int) : Int := (l.count v : Nat)
theorem num_nil (v : Int) : num [] v = 0 := rfl
theorem num_cons (x : Int) (l : List Int) (v : Int) : num (x :: l) v = num l v + if x = v then 1 else 0 := by
  simp only [num, List.count_cons]
  by_cases h : x = v
  · simp [h]
  · simp [h]
theorem ofS_facts : ∀ (l : List Int) (out : List Run), l.Pairwise (· ≤ ·) → asc out → pos out → (∀ v ∈ l, upto v out) →
    asc (ofS out l) ∧ pos (ofS out l) ∧ (∀ v, cnt (ofS out l) v = cnt out v + num l v) ∧ sum (ofS out l) = sum out + l.length ∧ (ofS out l).length ≤ out.length + l.length
  | [], out, _, ho, po, _ => by simp [ofS, ho, po, num_nil]
  | x :: l, out, hs, ho, po, hu => by
    obtain ⟨h1, h2⟩ := List.pairwise_cons.mp hs
    have hx := hu x (by simp)
    have := ofS_facts l (moreL out x 1) h2 (moreL_asc ho hx) (moreL_pos po (Int.le_refl _)) (fun v hv => upto_le (moreL_upto hx) (h1 v hv))
    refine ⟨this.1, this.2.1, fun v => ?_, ?_, ?_⟩
    · rw [ofS, this.2.2.1, moreL_cnt, num_cons]; omega
    · rw [ofS, this.2.2.2.1, moreL_sum]; simp; omega
    · have := this.2.2.2.2
      have := moreL_len out x 1
      rw [ofS]; simp only [List.length_cons]; omega
theorem srt_perm (l : List Int) : (srt l).Perm l := List.mergeSort_perm _ _
theorem srt_sorted (l : List Int) : (srt l).Pairwise (· ≤ ·) := by
  have := List.pairwise_mergeSort (le := fun x y : Int => decide (x ≤ y)) (fun a b c h1 h2 => by simp at *; omega) (fun a b => by simp; omega) l
  simpa [srt] using this
theorem ofL_facts (l : List Int) : asc (ofL l) ∧ pos (ofL l) ∧ (∀ v, cnt (ofL l) v = num l v) ∧ sum (ofL l) = l.length ∧ (ofL l).length ≤ l.length := by
  have := ofS_facts (srt l) [] (srt_sorted l) (by simp [asc]) (fun q hq => by simp at hq) (fun v _ q hq => by simp at hq)
  have hl := (srt_perm l).length_eq
  refine ⟨this.1, this.2.1, fun v => ?_, ?_, ?_⟩
  · rw [ofL, this.2.2.1]
    simp only [cnt, num, (srt_perm l).count_eq]; omega
  · rw [ofL, this.2.2.2.1, hl]; simp [sum]
  · have := this.2.2.2.2
    rw [hl] at this; simpa [ofL] using this
theorem good_ofL {l : List Int} (h : l.length ≤ 1000000) : good (ofL l) = true := by
  obtain ⟨h1, h2, _, h4, _⟩ := ofL_facts l
  exact good_iff.mpr ⟨h1, h2, by rw [h4]; simp [cap]; omega⟩
theorem ofL_ext {b : List Run} {l : List Int} (h1 : asc b) (h2 : pos b) (h : ∀ v, cnt b v = num l v) : b = ofL l := by
  obtain ⟨g1, g2, g3, _⟩ := ofL_facts l
  exact ext h1 g1 h2 g2 fun v => by rw [h, g3]
/-! ### the ends -/
theorem mem_of_cnt : ∀ {l : List Run} {v : Int}, cnt l v ≠ 0 → ∃ r ∈ l, r.1 = v
  | [], v, h => by simp [cnt] at h
  | r :: l, v, h => by
    by_cases e : r.1 = v
    · exact ⟨r, by simp, e⟩
    · simp only [cnt, if_neg e, Int.zero_add] at h
      obtain ⟨q, hq, he⟩ := mem_of_cnt h
      exact ⟨q, by simp [hq], he⟩
theorem num_pos {l : List Int} {v : Int} : 0 < num l v ↔ v ∈ l := by
  simp only [num]
  rw [← List.count_pos_iff]
  omega
theorem ofL_mem {l : List Int} {r : Run} (h : r ∈ ofL l) : r.1 ∈ l := by
  obtain ⟨h1, h2, h3, _⟩ := ofL_facts l
  have := cnt_pos h2 h
  have := h2 r h
  exact num_pos.mp (by rw [← h3]; omega)
end Go.Bag
/-
  BAGS, PLAIN, the sixth part: the ends of a bag of values. My own work.
-/
namespace Go.Bag
open Go.Pl
end Go.Bag
/-
  BAGS, PLAIN, the seventh part: bags of values joined, taken away, summed. My own work.
-/
namespace Go.Bag
open Go.Pl
theorem num_perm {a b : List Int} (h : a.Perm b) (v : Int) : num a v = num b v := by simp only [num, h.count_eq]
theorem ofL_perm {a b : List Int} (h : a.Perm b) : ofL a = ofL b := by
  obtain ⟨h1, h2, h3, _⟩ := ofL_facts a
  exact ofL_ext h1 h2 fun v => by rw [h3, num_perm h]
theorem join_ok {a b : List Run} (ga : good a = true) (gb : good b = true) (h : sum a + sum b ≤ cap) : ∃ o, join a b = (o, true) ∧ good o = true ∧ sum o = sum a + sum b ∧ ∀ v, cnt o v = cnt a v + cnt b v := by
  obtain ⟨a1, a2, a3⟩ := good_iff.mp ga
  obtain ⟨b1, b2, b3⟩ := good_iff.mp gb
  have h0 : cap = 1099511627776 := rfl
  obtain ⟨m1, m2, m3, m4⟩ := merge_facts _ [] a b rfl (by simp [asc]) a1 b1 (fun q hq => by simp at hq) a2 b2 (fun r _ q hq => by simp at hq) (fun r _ q hq => by simp at hq)
  have m5 : sum (merge [] a b) = sum a + sum b := by rw [m4]; simp [sum]
  refine ⟨merge [] a b, ?_, good_iff.mpr ⟨m1, m2, by omega⟩, m5, fun v => by rw [m3]; simp [cnt]⟩
  unfold join
  rw [if_pos ⟨ga, gb, by omega⟩]
theorem join_no {a b : List Run} (h : ¬ (good a = true ∧ good b = true ∧ sum a + sum b ≤ cap)) : join a b = ([], false) := by
  have h0 : cap = 1099511627776 := rfl
  unfold join
  rw [if_neg fun h' => h ⟨h'.1, h'.2.1, by omega⟩]
/-! ### sums -/
theorem wsum_append : ∀ (l k : List Run), wsum (l ++ k) = wsum l + wsum k
  | [], k => by simp [wsum]
  | r :: l, k => by simp only [List.cons_append, wsum, wsum_append l k]; omega
theorem wsum_moreL (l : List Run) (v n : Int) : wsum (moreL l v n) = wsum l + v * n := by
  rcases snoc_cases l with rfl | ⟨k, r, rfl⟩
  · simp [moreL_nil, wsum]
  · by_cases hv : r.1 = v
    · subst hv; rw [moreL_eq, wsum_append, wsum_append]; simp only [wsum, Int.mul_add]; omega
    · rw [moreL_ne _ _ _ _ hv, wsum_append]; simp only [wsum]; omega
def sumI : List Int → Int
  | [] => 0
  | a :: l => a + sumI l
theorem wsum_ofS : ∀ (l : List Int) (out : List Run), wsum (ofS out l) = wsum out + sumI l
  | [], out => by simp [ofS, sumI]
  | x :: l, out => by rw [ofS, wsum_ofS l, wsum_moreL]; simp only [sumI]; omega
theorem sumI_perm {a b : List Int} (h : a.Perm b) : sumI a = sumI b := by
  induction h with
  | nil => rfl
  | cons x _ ih => simp only [sumI, ih]
  | swap x y l => simp only [sumI]; omega
  | trans _ _ h1 h2 => rw [h1, h2]
theorem wsum_ofL (l : List Int) : wsum (ofL l) = sumI l := by
  rw [ofL, wsum_ofS, sumI_perm (srt_perm l)]; simp [wsum]
theorem ranged_ofL {l : List Int} (h : ∀ a ∈ l, -9223372036854775808 ≤ a ∧ a ≤ 9223372036854775807) (hl : l.length ≤ 1000000) : ranged (ofL l) := by
  obtain ⟨h1, h2, h3, h4, _⟩ := ofL_facts l
  intro r hr
  have := le_sum h2 r hr
  refine ⟨h r.1 (ofL_mem hr), by omega, by omega⟩
end Go.Bag
/-
  BAGS, PLAIN, the eighth part: the document's laying of values comes to the same bags. My own work.
-/
namespace Go.Bag
open Go.Pl
theorem asc_cnt : ∀ {l : List Run} {r : Run}, asc l → r ∈ l → cnt l r.1 = r.2
  | [], r, _, hr => by simp at hr
  | q :: l, r, h, hr => by
    obtain ⟨h1, h2⟩ := asc_cons.mp h
    rcases List.mem_cons.mp hr with rfl | hr
    · have : cnt l r.1 = 0 := cnt_none fun p hp => by have := h1 p hp; omega
      simp [cnt, this]
    · have h3 := h1 r hr
      simp only [cnt, if_neg (show ¬ q.1 = r.1 by omega), asc_cnt h2 hr]; omega
end Go.Bag
/-
  BAGS, PLAIN, the ninth part: the document's bags of values, joined, taken away. My own work.
-/
namespace Go.Bag
open Go.Pl
end Go.Bag
/-
  CELLS, PLAIN: what is known of some rows. My own work.
-/
namespace Go.Bag
open Go.Pl
structure Cell where
  n : Int
  s0 : Int
  s1 : Int
  b0 : List Run
  b1 : List Run
  deriving DecidableEq
def zeroC : Cell := ⟨0, 0, 0, [], []⟩
def encC (c : Cell) : List CV := [.int .i64 c.n, .int .i64 c.s0, .int .i64 c.s1, encL c.b0, encL c.b1]
def encCell (c : Cell) : CV := .agg (encC c)
def in64 (a : Int) : Prop := -9223372036854775808 ≤ a ∧ a ≤ 9223372036854775807
instance (a : Int) : Decidable (in64 a) := by unfold in64; infer_instance
def inC (k : Nat) (c : Cell) : Prop := in64 c.n ∧ in64 c.s0 ∧ in64 c.s1 ∧ ranged c.b0 ∧ ranged c.b1 ∧ c.b0.length ≤ k ∧ c.b1.length ≤ k
def gM (b : List Run) (s n : Int) : Bool := decide (good b = true ∧ wsum b = s ∧ sum b = n)
def goodC (m : Int) (c : Cell) : Bool := decide ((1 ≤ m ∧ m ≤ 2) ∧ (1 ≤ c.n ∧ c.n ≤ 1099511627776) ∧ gM c.b0 c.s0 c.n = true ∧ (if m = 2 then gM c.b1 c.s1 c.n = true else c.s1 = 0 ∧ c.b1 = []))
structure LineS where
  p0 : Int
  p1 : Int
  p2 : Int
  p3 : Int
  n : Int
  s0 : Int
  s1 : Int
  lo0 : Int
  lo1 : Int
  hi0 : Int
  hi1 : Int
  deriving DecidableEq
structure Place where
  p0 : Int
  p1 : Int
  p2 : Int
  p3 : Int
  deriving DecidableEq
def encP (p : Place) : List CV := [.int .u8 p.p0, .int .u8 p.p1, .int .u8 p.p2, .int .u8 p.p3]
structure RowS where
  p : Place
  m0 : Int
  m1 : Int
  deriving DecidableEq
def encRow (r : RowS) : List CV := encP r.p ++ [.int .i64 r.m0, .int .i64 r.m1]
def encRows (l : List RowS) : CV := .sl (l.map encRow)
def ofC (m : Int) (l : List RowS) : Cell × Bool :=
  if (1 ≤ m ∧ m ≤ 2) ∧ l ≠ [] ∧ in64 (sumI (l.map (·.m0))) ∧ (m = 2 → in64 (sumI (l.map (·.m1)))) then
    (⟨l.length, sumI (l.map (·.m0)), if m = 2 then sumI (l.map (·.m1)) else 0, ofL (l.map (·.m0)), if m = 2 then ofL (l.map (·.m1)) else []⟩, true) else (zeroC, false)
theorem goodC_iff {m : Int} {c : Cell} : goodC m c = true ↔ (1 ≤ m ∧ m ≤ 2) ∧ (1 ≤ c.n ∧ c.n ≤ 1099511627776) ∧ gM c.b0 c.s0 c.n = true ∧ (if m = 2 then gM c.b1 c.s1 c.n = true else c.s1 = 0 ∧ c.b1 = []) := by
  simp only [goodC, decide_eq_true_eq]
theorem gM_iff {b : List Run} {s n : Int} : gM b s n = true ↔ good b = true ∧ wsum b = s ∧ sum b = n := by simp only [gM, decide_eq_true_eq]
end Go.Bag
/-
  CATALOGS, PLAIN: dimensions, levels, members; which places are a node's. My own work.
-/
namespace Go.Bag
open Go.Pl
def encIs (l : List Int) : CV := .sl (l.map fun n => [.int .i64 n])
structure DimS where
  sizes : List Int
  up : List (List Int)
def encDim (d : DimS) : List CV := [encIs d.sizes, .sl (d.up.map fun l => [encIs l])]
structure CatS where
  dims : List DimS
  m : Int
def encCat (c : CatS) : List CV := [.sl (c.dims.map encDim), .int .i64 c.m]
def upOk : List Int → List (List Int) → Bool
  | n :: s :: ss, u :: us => decide ((u.length : Int) = n) && u.all (fun m => decide (0 ≤ m ∧ m < s)) && upOk (s :: ss) us
  | [_], [] => true
  | _, _ => false
def goodDim (d : DimS) : Bool := decide (1 ≤ d.sizes.length ∧ d.sizes.length ≤ 4) && (decide (d.up.length + 1 = d.sizes.length) && (d.sizes.all (fun n => decide (1 ≤ n ∧ n ≤ 40)) && upOk d.sizes d.up))
def sizeD (d : DimS) (k : Int) : Int := if goodDim d = true ∧ 0 ≤ k ∧ k ≤ d.sizes.length then (if k = d.sizes.length then 1 else d.sizes.getD k.toNat 0) else 0
def goodCat (c : CatS) : Bool := decide ((1 ≤ c.dims.length ∧ c.dims.length ≤ 4) ∧ 1 ≤ c.m ∧ c.m ≤ 2) && c.dims.all goodDim
def placeL (p : Place) : List Int := [p.p0, p.p1, p.p2, p.p3]
def zeroP : Place := ⟨0, 0, 0, 0⟩
def rightL : List DimS → List Int → List Int → Bool
  | [], x :: xs, y :: ys => decide (x = 0 ∧ y = 0) && rightL [] xs ys
  | d :: ds, x :: xs, y :: ys => decide (y < sizeD d x) && rightL ds xs ys
  | _, _, _ => true
def rightC (c : CatS) (v a : Place) : Bool := goodCat c && rightL c.dims (placeL v) (placeL a)
def lightDim (d : DimS) : Bool := decide (d.sizes.length ≤ 10 ∧ d.up.length ≤ 10) && d.up.all (fun l => decide (l.length ≤ 60))
def lightCat (c : CatS) : Bool := decide (c.dims.length ≤ 8) && c.dims.all lightDim
def goodR (c : CatS) (r : RowS) : Bool := rightC c zeroP r.p && (rightC c zeroP zeroP && decide (c.m ≤ 0 → r.m0 = 0) && decide (c.m ≤ 1 → r.m1 = 0))
def keyP (p : Place) : Int := ((p.p0 * 256 + p.p1) * 256 + p.p2) * 256 + p.p3
def lessR (a b : RowS) : Bool := if a.p ≠ b.p then decide (keyP a.p < keyP b.p) else if a.m0 ≠ b.m0 then decide (a.m0 < b.m0) else decide (a.m1 < b.m1)
def insR (l : List RowS) (r : RowS) : List RowS := l.takeWhile (fun x => !lessR r x) ++ r :: l.dropWhile (fun x => !lessR r x)
def sortR (l : List RowS) : List RowS := l.foldl insR []
theorem sizeD_in {d : DimS} {k : Int} : 0 ≤ sizeD d k ∧ sizeD d k ≤ 40 := by
  unfold sizeD
  split
  · rename_i h
    split
    · omega
    · rename_i hk
      have hlt : k.toNat < d.sizes.length := by omega
      have hg := h.1
      unfold goodDim at hg
      simp only [Bool.and_eq_true, List.all_eq_true, decide_eq_true_eq] at hg
      have := hg.2.2.1 _ (List.getElem_mem hlt)
      rw [List.getD_eq_getElem?_getD, List.getElem?_eq_getElem hlt]
      simp only [Option.getD_some]
      omega
  · omega
end Go.Bag
/-
  DERIVED: THE SHELF's CONTRACTS AT THIS DUMP, IN PLAIN WORDS (tools/lay-plain.mjs out of 'YtcmejdkjfekoeaaLays.lean', which tools/lay-shelf.mjs wrote): THE SAME DECLARATIONS UNDER THE SAME NAMES: 'import', 'namespace', 'open', 'def', 'theorem' AND NOTHING ELSE: no command of the shelf's: FOR A HAND-IN. Each laying: the table of numbers ('.._ren') and one theorem, a field a fact of the dump's own or the kernel's comparison; each contract: ONE APPLICATION.
-/
namespace Go.Proofs
open Go.Shelf
def Try.sorted_ren : Go.Shelf.Ren := ⟨fun | 6 => 82 | 8 => 115 | 9 => 116 | 11 => 138 | 13 => 140 | 12 => 139 | 23 => 156 | 24 => 157 | 14 => 147 | 15 => 148 | 16 => 149 | 17 => 150 | 18 => 151 | 19 => 152 | 20 => 153 | 21 => 154 | 22 => 155 | 25 => 160 | 26 => 161 | 27 => 162 | 28 => 163 | 29 => 164 | 30 => 124 | 31 => 165 | n => n, fun | 26 => 2 | 28 => 138 | 24 => 22 | 0 => 0 | 3 => 3 | 37 => 180 | 48 => 215 | 50 => 31 | 4 => 4 | 40 => 207 | 39 => 206 | 45 => 212 | 5 => 5 | 9 => 9 | 51 => 219 | 55 => 223 | 57 => 225 | 58 => 226 | 33 => 179 | n => n, fun | n => n⟩
theorem Try.sorted : Go.Proofs.SlLaysZI.n6 Try.prog Try.sorted_ren := {
  mixed := by kernel_rfl
  f6 := ⟨Try.f82.name, by decide, Try.func82.trans (congrArg some (by kernel_rfl))⟩
  f8 := ⟨Try.f115.name, by decide, Try.func115.trans (congrArg some (by kernel_rfl))⟩
  f11 := ⟨Try.f138.name, by decide, Try.func138.trans (congrArg some (by kernel_rfl))⟩
  t0 := Try.underlying0
  a0 := Try.isAgg0
  z0 := Try.sizeOf0
  v0 := Try.zeroValue0
  t24 := Try.underlying22
  a24 := Try.isAgg22
  z24 := Try.sizeOf22
  v24 := Try.zeroValue22
  t26 := Try.underlying2
  a26 := Try.isAgg2
  z26 := Try.sizeOf2
  v26 := Try.zeroValue2
  t28 := Try.underlying138
  a28 := Try.isAgg138
  z28 := Try.sizeOf138
  v28 := Try.zeroValue138
  i26 := by kernel_rfl }
def Try.sortA_ren : Go.Shelf.Ren := ⟨fun | 5 => 116 | 8 => 140 | 7 => 139 | 19 => 156 | 20 => 157 | 10 => 147 | 11 => 148 | 12 => 149 | 13 => 150 | 14 => 151 | 15 => 152 | 16 => 153 | 17 => 154 | 18 => 155 | 30 => 160 | 31 => 161 | 32 => 162 | 33 => 163 | 34 => 164 | 35 => 124 | 40 => 165 | n => n, fun | 23 => 22 | 25 => 2 | 3 => 3 | 32 => 180 | 22 => 22 | 0 => 0 | 44 => 215 | 46 => 31 | 4 => 4 | 36 => 207 | 35 => 206 | 41 => 212 | 5 => 5 | 9 => 9 | 53 => 219 | 57 => 223 | 63 => 225 | 64 => 226 | n => n, fun | n => n⟩
theorem Try.sortA : Go.Proofs.SlLaysM.n5 Try.prog Try.sortA_ren := {
  mixed := by kernel_rfl
  f5 := ⟨Try.f116.name, by decide, Try.func116.trans (congrArg some (by kernel_rfl))⟩
  f7 := ⟨Try.f139.name, by decide, Try.func139.trans (congrArg some (by kernel_rfl))⟩
  f8 := Try.func140.trans (congrArg some (by kernel_rfl))
  f10 := ⟨Try.f147.name, by decide, Try.func147.trans (congrArg some (by kernel_rfl))⟩
  f11 := ⟨Try.f148.name, by decide, Try.func148.trans (congrArg some (by kernel_rfl))⟩
  f12 := ⟨Try.f149.name, by decide, Try.func149.trans (congrArg some (by kernel_rfl))⟩
  f13 := ⟨Try.f150.name, by decide, Try.func150.trans (congrArg some (by kernel_rfl))⟩
  f14 := ⟨Try.f151.name, by decide, Try.func151.trans (congrArg some (by kernel_rfl))⟩
  f15 := ⟨Try.f152.name, by decide, Try.func152.trans (congrArg some (by kernel_rfl))⟩
  f16 := ⟨Try.f153.name, by decide, Try.func153.trans (congrArg some (by kernel_rfl))⟩
  f17 := ⟨Try.f154.name, by decide, Try.func154.trans (congrArg some (by kernel_rfl))⟩
  f18 := ⟨Try.f155.name, by decide, Try.func155.trans (congrArg some (by kernel_rfl))⟩
  f19 := Try.func156.trans (congrArg some (by kernel_rfl))
  f20 := Try.func157.trans (congrArg some (by kernel_rfl))
  f30 := ⟨Try.f160.name, by decide, Try.func160.trans (congrArg some (by kernel_rfl))⟩
  f31 := Try.func161.trans (congrArg some (by kernel_rfl))
  f32 := Try.func162.trans (congrArg some (by kernel_rfl))
  f33 := ⟨Try.f163.name, by decide, Try.func163.trans (congrArg some (by kernel_rfl))⟩
  f34 := ⟨Try.f164.name, by decide, Try.func164.trans (congrArg some (by kernel_rfl))⟩
  f35 := ⟨Try.f124.name, by decide, Try.func124.trans (congrArg some (by kernel_rfl))⟩
  f40 := ⟨Try.f165.name, by decide, Try.func165.trans (congrArg some (by kernel_rfl))⟩
  t0 := Try.underlying0
  a0 := Try.isAgg0
  z0 := Try.sizeOf0
  v0 := Try.zeroValue0
  t3 := Try.underlying3
  a3 := Try.isAgg3
  z3 := Try.sizeOf3
  v3 := Try.zeroValue3
  t4 := Try.underlying4
  a4 := Try.isAgg4
  z4 := Try.sizeOf4
  v4 := Try.zeroValue4
  t5 := Try.underlying5
  a5 := Try.isAgg5
  z5 := Try.sizeOf5
  v5 := Try.zeroValue5
  t9 := Try.underlying9
  a9 := Try.isAgg9
  z9 := Try.sizeOf9
  v9 := Try.zeroValue9
  t22 := Try.underlying22
  a22 := Try.isAgg22
  z22 := Try.sizeOf22
  v22 := Try.zeroValue22
  t23 := Try.underlying22
  a23 := Try.isAgg22
  z23 := Try.sizeOf22
  v23 := Try.zeroValue22
  t25 := Try.underlying2
  a25 := Try.isAgg2
  z25 := Try.sizeOf2
  v25 := Try.zeroValue2
  t32 := Try.underlying180
  a32 := Try.isAgg180
  z32 := Try.sizeOf180
  v32 := Try.zeroValue180
  t35 := Try.underlying206
  a35 := Try.isAgg206
  z35 := Try.sizeOf206
  v35 := Try.zeroValue206
  t36 := Try.underlying207
  a36 := Try.isAgg207
  z36 := Try.sizeOf207
  v36 := Try.zeroValue207
  t41 := Try.underlying212
  a41 := Try.isAgg212
  z41 := Try.sizeOf212
  v41 := Try.zeroValue212
  t44 := Try.underlying215
  a44 := Try.isAgg215
  z44 := Try.sizeOf215
  v44 := Try.zeroValue215
  t46 := Try.underlying31
  a46 := Try.isAgg31
  z46 := Try.sizeOf31
  v46 := Try.zeroValue31
  t53 := Try.underlying219
  a53 := Try.isAgg219
  z53 := Try.sizeOf219
  v53 := Try.zeroValue219
  t57 := Try.underlying223
  a57 := Try.isAgg223
  z57 := Try.sizeOf223
  v57 := Try.zeroValue223
  t63 := Try.underlying225
  a63 := Try.isAgg225
  z63 := Try.sizeOf225
  v63 := Try.zeroValue225
  t64 := Try.underlying226
  a64 := Try.isAgg226
  z64 := Try.sizeOf226
  v64 := Try.zeroValue226 }
end Go.Proofs
/-
  slices.Sorted(slices.Values(l)), AT WHATEVER SLICE OF int64: its values in order. The worked proofs at the dump of 'slices.Collect', 'slices.Sorted', 'slices.Values' turned to this seat; the iterator is asked only for what the loop of AppendSeq keeps.
-/
namespace Go.Proofs.Ytcmejdkjfekoeaa
open Go.RowKit Go.Maps Go.Sort Go.Shelf
attribute [local go_sem] Oper.semAt_some
def SeqB (F : Fence) (n : Nat) (P : Program) (g : Nat) (lb : Array Value) (S : List Int → Prop) (N : Nat) (w : World) : Prop :=
  ∀ (l : Nat) (J : List Int → World → Prop) (W : World), Below w.heap.size w W → AbidesFrom W.heap.size J → (∀ ss W1, J ss W1 → Below w.heap.size w W1) →
    (∀ pre x W1, J pre W1 → pre.length < N → YieldAt F (n - 1) P l #[encZ x] W1 fun e W' => e = .returned (.bool true) ∧ J (pre ++ [x]) W' ∧ KeepsWalks W1 W') →
    J [] W →
    CallsIn F n P g (#[.func (.yield l) #[] #[]] ++ lb) W fun e W' => (∃ v, e = .returned v) ∧ ∃ xs, S xs ∧ J xs W'
def first {α : Type} (f : Nat → α) (k : Nat) : List α := (List.range k).map f
theorem first_succ {α : Type} (f : Nat → α) (k : Nat) : first f (k + 1) = first f k ++ [f k] := by simp [first, List.range_succ]
theorem first_length {α : Type} (f : Nat → α) (k : Nat) : (first f k).length = k := by simp [first]
theorem first_all (zs : List Int) : first (fun j => zs[j]?.getD 0) zs.length = zs := by
  apply List.ext_getElem
  · simp [first]
  · intro i h1 h2
    simp [first, h2]
set_option maxRecDepth 100000 in
set_option maxHeartbeats 2000000 in
theorem values1_b (F : Fence) (n : Nat) (h7 : F.fn 117) (hro : F.round = none) (hn : 1 ≤ n) (l Bs b off len cap : Nat) (zs : List Int) (hreach : len * 8 ≤ 140737488351232) (J : List Int → World → Prop)
    (hB : ∀ ss W1, J ss W1 → ∀ j, j < len → W1.cell? ⟨b, off + j, none⟩ = some (.int .i64 (zs[j]?.getD 0)))
    (hY : ∀ pre x W, J pre W → pre.length < len → YieldAt F (n - 1) Try.prog l #[encZ x] W fun e W' => e = .returned (.bool true) ∧ J (pre ++ [x]) W' ∧ KeepsWalks W W')
    (W : World) (hBs : W.cell? ⟨Bs, 0, none⟩ = some (.slice (some ⟨b, off, none⟩) len cap)) (h0 : J [] W) :
    CallsIn F n Try.prog 117 #[.func (.yield l) #[] #[], .pointer (some ⟨Bs, 0, none⟩)] W fun e W' => (∃ v, e = .returned v) ∧ J (first (fun j => zs[j]?.getD 0) len) W' := by
  refine callsIn_of_wp Try.func117 rfl h7 ?_ hro
  simp only [Try.ntmps117, List.size_toArray, List.length_cons, List.length_nil, Nat.reduceAdd, Nat.reduceSub, Array.replicate_succ, Array.replicate_zero, List.push_toArray, List.append_toArray, List.nil_append, List.cons_append]
  gi_wp2
  gi_loopw [7] (fun i wr => ∃ k : Nat, k ≤ len ∧ i = .int .i64 k ∧ J (first (fun j => zs[j]?.getD 0) k) wr)
    (fun i _ => len - (intOf i).toNat)
  case atStart => exact ⟨0, Nat.zero_le _, rfl, h0⟩
  case round =>
    obtain ⟨k, hk, rfl, hJs⟩ := hrel
    have hcx : k < len → wr.cell? ⟨b, off + k, none⟩ = some (.int .i64 (zs[k]?.getD 0)) := fun h => hB _ _ hJs k h
    by_cases hlt : k < len
    · obtain ⟨fn, tmps, assign, body, hy, hR⟩ := hY _ (zs[k]?.getD 0) wr hJs (by rw [first_length]; exact hlt)
      have hcx' := hcx hlt
      gi_wp2
      refine hR.mono ?_
      rintro e W3 ⟨rfl, hJ3, hk3⟩
      gi_wp2
      go_roundw
      case rel => exact ⟨k + 1, by omega, by simp, by rw [first_succ]; exact hJ3⟩
      case measure => simp [intOf]; omega
    · obtain rfl : k = len := by omega
      gi_wp2
      go_end0
      exact ⟨⟨_, rfl⟩, hJs⟩
set_option maxRecDepth 100000 in
set_option maxHeartbeats 1000000 in
theorem values1_none_b (F : Fence) (n : Nat) (h7 : F.fn 117) (hro : F.round = none) (l Bs : Nat) (a : Option Addr) (cap : Nat) (J : List Int → World → Prop) (W : World) (hBs : W.cell? ⟨Bs, 0, none⟩ = some (.slice a 0 cap)) (h0 : J [] W) :
    CallsIn F n Try.prog 117 #[.func (.yield l) #[] #[], .pointer (some ⟨Bs, 0, none⟩)] W fun e W' => (∃ v, e = .returned v) ∧ J [] W' := by
  refine callsIn_of_wp Try.func117 rfl h7 ?_ hro
  simp only [Try.ntmps117, List.size_toArray, List.length_cons, List.length_nil, Nat.reduceAdd, Nat.reduceSub, Array.replicate_succ, Array.replicate_zero, List.push_toArray, List.append_toArray, List.nil_append, List.cons_append]
  gi_wp2
  gi_loopw [7] (fun i wr => i = .int .i64 0 ∧ J [] wr) (fun _ _ => 0)
  case atStart => exact ⟨rfl, h0⟩
  case round =>
    obtain ⟨rfl, hJs⟩ := hrel
    gi_wp2
    go_end0
    exact ⟨⟨_, rfl⟩, hJs⟩
def Ints (w : World) (sv : Value) (zs : List Int) : Prop :=
  (∃ a cap, sv = .slice a 0 cap ∧ zs = []) ∨ ∃ b off cap, sv = .slice (some ⟨b, off, none⟩) zs.length cap ∧ b < w.heap.size ∧ ∀ j, j < zs.length → w.cell? ⟨b, off + j, none⟩ = some (.int .i64 (zs[j]?.getD 0))
theorem values_b (F : Fence) (n : Nat) (h7 : F.fn 117) (hro : F.round = none) (hn : 1 ≤ n) (Bs : Nat) (sv : Value) (zs : List Int) (hreach : zs.length * 8 ≤ 140737488351232) (w : World) (hBs : Bs < w.heap.size)
    (hc : w.cell? ⟨Bs, 0, none⟩ = some sv) (hI : Ints w sv zs) : SeqB F n Try.prog 117 #[.pointer (some ⟨Bs, 0, none⟩)] (fun ys => ys = zs) zs.length w := fun l J W hW _ hJ hY h0 => by
  have hc' := (hW.cell (p := ⟨Bs, 0, none⟩) hBs).trans hc
  rcases hI with ⟨a, cap, rfl, rfl⟩ | ⟨b, off, cap, rfl, hb, hcs⟩
  · exact (values1_none_b F n h7 hro l Bs a cap J W hc' h0).mono fun e W' ⟨he, hj⟩ => ⟨he, _, rfl, hj⟩
  · refine (values1_b F n h7 hro hn l Bs b off zs.length cap zs hreach J (fun ss W1 h j hj => ((hJ ss W1 h).cell (p := ⟨b, off + j, none⟩) hb).trans (hcs j hj)) hY W hc' h0).mono ?_
    rintro e W' ⟨he, hj⟩
    exact ⟨he, _, first_all zs, hj⟩
def SortsIn (F : Fence) (m : Nat) : Prop :=
  (∀ (blk off cap : Nat) (ss : List Int) (W : World), Holds encZ W blk off ss.toArray → blk < W.heap.size → ss.length < 4611686018427387904 →
    CallsIn F m Try.prog 116 #[.slice (some ⟨blk, off, none⟩) ss.length cap] W fun e w' => e = .returned (.tuple #[]) ∧ ∃ k os, w' = grow (putRow encZ (Sort.ahead W k) blk off (ss.mergeSort fun x y => decide (x ≤ y)).toArray) os) ∧
  (∀ (p : Option Addr) (cap : Nat) (W : World), CallsIn F m Try.prog 116 #[.slice p 0 cap] W fun e w' => e = .returned (.tuple #[]) ∧ w' = W)
theorem sorts_wide (m : Nat) : SortsIn Fence.wide m :=
  ⟨fun blk off cap ss W hH hblk hsz => callsIn_wide.2 (AnyM.slices_Sort_int Try.sortA blk off cap ss W hH hblk hsz),
   fun p cap W => callsIn_wide.2 (AnyM.slices_Sort_int_none Try.sortA p cap W)⟩
set_option maxRecDepth 100000 in
set_option maxHeartbeats 2000000 in
theorem appendSeq_b (F : Fence) (n : Nat) (h11 : F.fn 138) (hro : F.round = none) (hn : 2 ≤ n) (g : Nat) (lb : Array Value) (hFg : F.fn g) (eg : ∀ args w, (callFunc g args).run Try.prog w = .ok (.enter g args) w)
    (S : List Int → Prop) (N : Nat) (hN : N ≤ maxLen) (hNb : N * 8 ≤ 140737488355328) (w : World) (hseq : SeqB F (n - 1) Try.prog g lb S N w) :
    CallsIn F n Try.prog 138 #[.slice none 0 0, .func (.func g) #[] lb] w fun e w' => ∃ (v : Value) (ss : List Int), e = .returned v ∧ S ss ∧ w'.ownsRow w.heap.size 2 1 v ss.length (ss.map encZ) ∧ (v = .slice none 0 0 ↔ ss = []) ∧ Below w.heap.size w w' := by
  have h1 : 1 ≤ n := by omega
  refine callsIn_of_wp_marks Try.func138 rfl h11 ?_ hro
  simp only [Try.ntmps138, List.size_toArray, List.length_cons, List.length_nil, Nat.reduceAdd, Nat.reduceSub, Array.replicate_succ, Array.replicate_zero, List.push_toArray, List.append_toArray, List.nil_append, List.cons_append]
  gi_wp2
  refine wpIn_rangeFunc ?_
  intro fn hfn
  rw [hro]
  obtain ⟨W0, hW0⟩ : ∃ W0, w.alloc (.cells #[.slice none 0 0] 22) = W0 := ⟨_, rfl⟩
  have hs0 : W0.heap.size = w.heap.size + 1 := by rw [← hW0]; simp
  have hv0 : W0.heap[w.heap.size]? = some (.cells #[.slice none 0 0] 22 (0, 0)) := by rw [← hW0]; exact World.alloc_heap_new w _
  have hb0 : Below w.heap.size w W0 := by rw [← hW0]; exact (Below.refl _ w).alloc (Nat.le_refl _) _
  rw [hW0]
  obtain ⟨W1, hW1⟩ : ∃ W1, (W0.alloc (.deferred (some []))).alloc (.loop (AnyZI.apRec Try.sorted_ren fn (.func (.func g) #[] lb) w.heap.size W0.heap.size .ready none)) = W1 := ⟨_, rfl⟩
  have hold : ∀ k, k < W0.heap.size → W1.heap[k]? = W0.heap[k]? := fun k hk => by
    rw [← hW1]; exact (Below.heap_alloc _ _ k (by simp; omega)).trans (Below.heap_alloc _ _ k hk)
  have hb1 : Below w.heap.size w W1 := by rw [← hW1]; exact (hb0.alloc hb0.size _).alloc (by have := hb0.size; simp; omega) _
  have hs1 : W1.heap.size = W0.heap.size + 2 := by rw [← hW1]; simp
  have hM : AnyZI.ApAt Try.sorted_ren w fn (.func (.func g) #[] lb) w.heap.size (W0.heap.size + 1) W0.heap.size [] W1 :=
    ⟨⟨_, (hold w.heap.size (by omega)).trans hv0, ⟨rfl, .inl ⟨rfl, rfl⟩⟩, by simp⟩,
     by rw [← hW1]; have := World.alloc_heap_new (W0.alloc (.deferred (some []))) (.loop (AnyZI.apRec Try.sorted_ren fn (.func (.func g) #[] lb) w.heap.size W0.heap.size .ready none)); rwa [World.size_alloc] at this,
     by rw [← hW1]; exact (Below.heap_alloc _ _ _ (by simp)).trans (World.alloc_heap_new W0 _), hb1⟩
  refine ⟨W0.heap.size + 1, [{ target := .collected W0.heap.size, args := #[] }], W1, { target := .fn (.func g) lb, args := #[.func (.yield (W0.heap.size + 1)) #[] #[]] }, W1, g,
    #[.func (.yield (W0.heap.size + 1)) #[] #[]] ++ lb, W1, ?_, ?_, ?_, ?_, fun _ => h1, ?_⟩
  · rw [← hW1]; exact run_enterLoop_outer _ _ _ _ _
  · simp [resolve, go_sem]
  · intro f' hf'; simp [Target.leads] at hf'; subst hf'; exact hFg
  · simp [invoke, go_sem, eg]
  · refine (hseq (W0.heap.size + 1) (AnyZI.ApAt Try.sorted_ren w fn (.func (.func g) #[] lb) w.heap.size (W0.heap.size + 1) W0.heap.size) W1 hb1 (AnyZI.ap_abides Try.sorted_ren _ _ _ _ _ _ _ hb1.size) (fun ss W h => h.below)
      (fun pre x W hJ hl => AnyZI.apYield (ρ := Try.sorted_ren) { Try.sorted with } F (n - 1 - 1) w fn hfn _ w.heap.size (W0.heap.size + 1) W0.heap.size (by omega) (by omega) (by omega) (Nat.le_refl _) (by omega) N hN hNb pre x W hJ hl) hM).mono ?_
    rintro e W2 ⟨⟨v0, rfl⟩, ss, hS, h2⟩
    obtain ⟨v, hv, hrow, hnil⟩ := h2.box
    have hend := run_endLoop (P := Try.prog) h2.L (by simp [AnyZI.apRec])
    obtain ⟨W3, hW3⟩ : ∃ W3, W2.putObj (W0.heap.size + 1) (.loop { AnyZI.apRec Try.sorted_ren fn (.func (.func g) #[] lb) w.heap.size W0.heap.size .ready none with state := .exhausted }) = W3 := ⟨_, rfl⟩
    rw [hW3] at hend
    have hg3 : W2.grownBy W3 (some (W0.heap.size + 1)) := by rw [← hW3]; exact grownBy_putObj_a _ _ _
    have hv3 : W3.heap[w.heap.size]? = some (.cells #[v] 22 (0, 0)) := by rw [← hW3]; exact (World.putObj_heap_other (by omega)).trans hv
    have hK3 : W3.heap[W0.heap.size]? = some (.deferred (some [])) := by rw [← hW3]; exact (World.putObj_heap_other (by omega)).trans h2.K
    have hrow3 := hrow.kept hg3 (ownsRow_ne_a hrow h2.L (fun cur e => by cases e))
    have hb3 : Below w.heap.size w W3 := h2.below.grown hg3 h2.below.size (fun k e => by cases e; omega)
    obtain ⟨hc3, hf3⟩ := cell_of_box_a hv3
    clear hW3
    refine ⟨none, W3, hend, ?_⟩
    gi_wp2
    rw [← hs0]
    refine ⟨by simp, .inl ⟨_, _, rfl, run_takeDeferred hK3, ?_⟩⟩
    exact ⟨_, results_tmp rfl _ _ _, v, ss, rfl, hS, hrow3.kept (grownBy_putObj_a _ _ _) (ownsRow_ne_a hrow3 hK3 (fun cur e => by cases e)), hnil, hb3.grown (grownBy_putObj_a _ _ _) hb3.size (fun k e => by cases e; omega)⟩
set_option maxRecDepth 100000 in
set_option maxHeartbeats 2000000 in
theorem collect_b (F : Fence) (n : Nat) (h8 : F.fn 115) (h11 : F.fn 138) (hro : F.round = none) (hn : 3 ≤ n) (g : Nat) (lb : Array Value) (hFg : F.fn g) (eg : ∀ args w, (callFunc g args).run Try.prog w = .ok (.enter g args) w)
    (S : List Int → Prop) (N : Nat) (hN : N ≤ maxLen) (hNb : N * 8 ≤ 140737488355328) (w : World) (hseq : SeqB F (n - 1 - 1) Try.prog g lb S N w) :
    CallsIn F n Try.prog 115 #[.func (.func g) #[] lb] w fun e w' => ∃ (v : Value) (ss : List Int), e = .returned v ∧ S ss ∧ w'.ownsRow w.heap.size 2 1 v ss.length (ss.map encZ) ∧ (v = .slice none 0 0 ↔ ss = []) ∧ Below w.heap.size w w' := by
  have h1 : 1 ≤ n := by omega
  refine callsIn_of_wp Try.func115 rfl h8 ?_ hro
  simp only [Try.ntmps115, List.size_toArray, List.length_cons, List.length_nil, Nat.reduceAdd, Nat.reduceSub, Array.replicate_succ, Array.replicate_zero, List.push_toArray, List.append_toArray, List.nil_append, List.cons_append]
  gi_wp2_with (gi_at_call 138; refine (appendSeq_b F (n - 1) h11 hro (by omega) g lb hFg eg S N hN hNb _ hseq).mono ?_; rintro e w' ⟨v, ss, rfl, hS, hrow, hnil, hb⟩)
  go_ret
  exact ⟨v, ss, rfl, hS, hrow, hnil, hb⟩
set_option maxRecDepth 100000 in
set_option maxHeartbeats 2000000 in
theorem sorted_b (F : Fence) (n : Nat) (h6 : F.fn 82) (h8 : F.fn 115) (h9 : F.fn 116) (h11 : F.fn 138) (hro : F.round = none) (hn : 4 ≤ n) (hsort : SortsIn F (n - 1)) (g : Nat) (lb : Array Value) (hFg : F.fn g) (eg : ∀ args w, (callFunc g args).run Try.prog w = .ok (.enter g args) w)
    (S : List Int → Prop) (N : Nat) (hN : N ≤ maxLen) (hNb : N * 8 ≤ 140737488355328) (w : World) (hSN : ∀ ss, S ss → ss.length ≤ N) (hseq : SeqB F (n - 1 - 1 - 1) Try.prog g lb S N w) :
    CallsIn F n Try.prog 82 #[.func (.func g) #[] lb] w fun e w' => ∃ (v : Value) (ss : List Int), e = .returned v ∧ S ss ∧
      w'.ownsRow w.heap.size 2 1 v ss.length ((ss.mergeSort (fun x y => decide (x ≤ y))).map encZ) ∧ (v = .slice none 0 0 ↔ ss = []) ∧ Below w.heap.size w w' := by
  have h1 : 1 ≤ n := by omega
  refine callsIn_of_wp Try.func82 rfl h6 ?_ hro
  simp only [Try.ntmps82, List.size_toArray, List.length_cons, List.length_nil, Nat.reduceAdd, Nat.reduceSub, Array.replicate_succ, Array.replicate_zero, List.push_toArray, List.append_toArray, List.nil_append, List.cons_append]
  gi_wp2_with (gi_at_call 115; refine (collect_b F (n - 1) h8 h11 hro (by omega) g lb hFg eg _ N hN hNb _ hseq).mono ?_; rintro e W ⟨v, ss, rfl, hS, hrow, hnil, hb⟩)
  rcases hrow.2 with ⟨rfl, hz⟩ | ⟨gb, cap, cur, rfl, hbase, hgb, r1, r2, r3, r4⟩
  · -- nothing came: the nil slice is sorted and handed back
    have hss : ss = [] := List.eq_nil_of_length_eq_zero hz
    subst hss
    gi_wp2_with (gi_at_call 116; refine (hsort.2 none 0 W).mono ?_; rintro e w' ⟨rfl, rfl⟩)
    go_ret
    exact ⟨.slice none 0 0, [], rfl, hS, by simpa using hrow, by simp, hb⟩
  · have hH : Holds encZ W gb 0 ss.toArray := holds_of_block_i hgb (by simpa using r4)
    have hgl : gb < W.heap.size := (Array.getElem?_eq_some_iff.1 hgb).1
    have hsz : ss.length < 4611686018427387904 := by have := hSN ss hS; omega
    have cS := hsort.1 gb 0 cap ss W hH hgl hsz
    gi_wp2_with (gi_at_call 116; refine cS.mono ?_; rintro e w' ⟨rfl, nn, os, rfl⟩)
    go_ret
    exact ⟨_, ss, rfl, hS, ownsRow_sorted_i (by simp) hbase hgb r1 r2 r3, hnil, hb.grown (grownBy_sorted_i _) hb.size (fun j hj => by cases hj; exact hbase)⟩
/-! ### as plain states have it -/
open Go.Pl Go.Bag
def encIL' (l : List Int) : CV := .sl (l.map fun n => [.int .i64 n])
theorem pcallC_of {P : Program} {f : FuncId} {cs : List CV} {r : CV}
    (h : ∀ (w : World) (O : Nat → Prop) (vs : Array Value), vs.size = cs.length → (∀ (i : Nat) (h1 : i < vs.size) (h2 : i < cs.length), V w O vs[i] cs[i]) → (∀ b, O b → b < w.heap.size) →
      Calls P f vs w fun e w' => ∃ v, e = .returned v ∧ V w' O v r ∧ Below w.heap.size w w') : PCallG P f (cs.map .c) (.c r) [] := by
  intro w O A β vs hsz hS
  have hn : vs.size = cs.length := by simpa using hsz
  refine (h w O vs hn (fun i h1 h2 => ?_) (fun b hb => (hS.outer b hb).1)).mono ?_
  · have ht := hS.temps i
    have e1 : (initPS (cs.map AV.c)).t i = .c cs[i] := by simp [initPS, h2]
    have e2 : vs.getD i undef = vs[i] := by simp [h1]
    rw [e1, e2] at ht
    exact V.ext (.of_less fun b hb => .inl hb) ht
  · rintro e w' ⟨v, rfl, hv, hb⟩
    have hdead : ∀ d, ((retPS (cs.map AV.c) (.c r) []).bx d).st = .dead := by
      intro d
      simp only [retPS]
      split
      · rfl
      · simp only [List.getElem?_map]
        cases cs[d]? <;> rfl
    refine ⟨v, fun _ => none, rfl, ⟨hb.os, hb.tape, hb.output, hb.size, fun b hlt _ => hb.block b hlt, fun i => ?_, fun d => ?_, fun d d' p p' _ ho hd => (by simp at *), fun d p _ hd => (by simp at hd), fun b hO => hS.outer b hO, fun d ps hd => (by rw [hdead] at hd; cases hd), fun d _ _ => rfl⟩, fun i c hi => ?_⟩
    · by_cases hi : i = (cs.map AV.c).length
      · simp only [hi, if_true, retPS]
        exact V.ext (.of_less fun b hb => by
          rcases hb with hb | ⟨_, _, _, hb⟩
          · exact hb
          · cases hb) hv
      · simp only [if_neg hi, retPS]; trivial
    · rw [hdead]; trivial
    · simp only [List.getElem?_map] at hi
      cases hc : cs[i]? <;> rw [hc] at hi <;> cases hi
theorem ints_of {w : World} {N : Nat → Prop} {v : Value} {l : List Int} (h : V w N v (encIL' l)) : Ints w v l := by
  unfold encIL' at h
  generalize he : (l.map fun n => [CV.int .i64 n]) = es at h
  cases h with
  | nil => exact .inl ⟨none, 0, rfl, by cases l <;> simp_all⟩
  | emp a cap => exact .inl ⟨some a, cap, rfl, by cases l <;> simp_all⟩
  | sl b off cap sz _ c hb hN hz hcap h1 hread hVV =>
    subst he
    refine .inr ⟨b, off, cap, by simp, hb, fun j hj => ?_⟩
    have hj' : j < (l.map fun n => [CV.int .i64 n]).length := by simpa using hj
    have hs : sz = 1 := by
      have := hz _ (List.getElem_mem hj')
      simpa using this.symm
    have h0 : 0 < (l.map fun n => [CV.int .i64 n])[j].length := by simp
    have h1 := hread j 0 hj' h0
    have h2 := hVV j 0 hj' h0
    subst hs
    rw [show off + j = off + (j * 1 + 0) by omega, h1]
    have e : (l.map fun n => [CV.int .i64 n])[j][0] = CV.int .i64 l[j] := by simp
    rw [e] at h2
    rw [V.int_inv h2]
    simp [hj]
theorem V_of_ownsRow {w' : World} {O : Nat → Prop} {base : Nat} {v : Value} {zs : List Int} (hO : ∀ b, O b → b < base) (h : w'.ownsRow base 2 1 v zs.length (zs.map encZ)) : V w' O v (encIL' zs) := by
  unfold encIL'
  rcases h.2 with ⟨rfl, h0⟩ | ⟨g, cap, cur, rfl, hb, hg, h1, h2, h3, h4⟩
  · obtain rfl : zs = [] := List.eq_nil_of_length_eq_zero h0
    exact .nil
  · have hlt : g < w'.heap.size := (Array.getElem?_eq_some_iff.1 hg).1
    have := V.sl (w := w') (N := O) g 0 cap 1 (zs.map fun n => [CV.int .i64 n]) (fun i _ => .int .i64 (zs[i]?.getD 0)) hlt (fun h => by have := hO g h; omega) (fun e he => by
        obtain ⟨n, _, rfl⟩ := List.mem_map.1 he
        rfl) (by simpa using h1) (fun e he c hc => by
        obtain ⟨n, _, rfl⟩ := List.mem_map.1 he
        simp at hc
        subst hc
        rfl) (fun i j hi hj => by
        have hi' : i < zs.length := by simpa using hi
        obtain rfl : j = 0 := by simp at hj; omega
        have : cur[i]? = some (encZ zs[i]) := by
          have e : (cur.toList.take (zs.length * 1))[i]? = (zs.map encZ)[i]? := by rw [h4]
          rw [List.getElem?_take, if_pos (by omega)] at e
          simpa [hi'] using e
        simp only [World.cell?, hg]
        simp [this, hi', encZ]) (fun i j hi hj => by
        have hi' : i < zs.length := by simpa using hi
        obtain rfl : j = 0 := by simp at hj; omega
        simp [hi']
        exact .int _ _)
    simpa using this
theorem C_Values (l : List Int) : PCallG Try.prog 83 [.c (encIL' l)] (.c (.clo 117 (encIL' l))) [] := by
  refine pcallC_of (cs := [encIL' l]) fun w O vs hn hV hO => ?_
  have hn1 : vs.size = 1 := by simpa using hn
  have hv := hV 0 (by omega) (by simp)
  obtain ⟨v, rfl⟩ : ∃ v, vs = #[v] := ⟨vs[0]'(by omega), by
    apply Array.ext
    · simpa using hn1
    · intro i h1 h2
      obtain rfl : i = 0 := by simp at h2; omega
      rfl⟩
  have hv : V w O v (encIL' l) := hv
  obtain ⟨a, len, cap, rfl⟩ : ∃ a len cap, v = .slice a len cap := by
    unfold encIL' at hv
    generalize (l.map fun n => [CV.int .i64 n]) = es at hv
    cases hv <;> exact ⟨_, _, _, rfl⟩
  refine calls_of_wp Try.func83 rfl ?_
  simp only [Try.ntmps83, List.size_toArray, List.length_cons, List.length_nil, Nat.reduceAdd, Nat.reduceSub, Array.replicate_succ, Array.replicate_zero, List.push_toArray, List.append_toArray, List.nil_append, List.cons_append]
  go_wp2
  go_ret
  refine ⟨_, rfl, ?_, (Below.refl _ w).alloc (Nat.le_refl _) _⟩
  refine V.clo 117 w.heap.size (.slice a len cap) _ (by simp) (fun h => by have := hO _ h; omega) ?_ (hv.ext ⟨by simp, fun b hb _ => Below.heap_alloc _ _ b hb, fun b _ h => h⟩)
  show (match (w.alloc (.cells #[.slice a len cap] 22)).heap[w.heap.size]? with | some (Obj.cells c _ _) => c[0]? | _ => none) = _
  rw [World.alloc_heap_new]
  rfl
theorem C_Sorted (l : List Int) (hlen : l.length < 1000000000) : PCallG Try.prog 82 [.c (.clo 117 (encIL' l))] (.c (encIL' (srt l))) [] := by
  refine pcallC_of (cs := [.clo 117 (encIL' l)]) fun w O vs hn hV hO => ?_
  have hn1 : vs.size = 1 := by simpa using hn
  have hv := hV 0 (by omega) (by simp)
  obtain ⟨v, rfl⟩ : ∃ v, vs = #[v] := ⟨vs[0]'(by omega), by
    apply Array.ext
    · simpa using hn1
    · intro i h1 h2
      obtain rfl : i = 0 := by simp at h2; omega
      rfl⟩
  have hv : V w O v (.clo 117 (encIL' l)) := hv
  cases hv with
  | clo _ b sv _ hb hN hr h =>
    have hm : maxLen = 9223372036854775807 := rfl
    have hseq := values_b Fence.wide 1 trivial rfl (Nat.le_refl _) b sv l (by omega) w hb hr (ints_of h)
    refine (callsIn_wide (n := 4)).1 ((sorted_b Fence.wide 4 trivial trivial trivial trivial rfl (Nat.le_refl _) (sorts_wide _) 117 _ trivial (enters_of Try.func117 (by kernel_rfl) rfl) _ l.length (by omega) (by omega) w (fun ss h => by rw [h]; exact Nat.le_refl _) hseq).mono ?_)
    rintro e w' ⟨v, ss, rfl, rfl, hrow, _, hbl⟩
    refine ⟨v, rfl, ?_, hbl⟩
    have hl : ss.length = (srt ss).length := (srt_perm ss).length_eq.symm
    rw [hl] at hrow
    exact V_of_ownsRow hO hrow
end Go.Proofs.Ytcmejdkjfekoeaa
namespace Go.Proofs.Ytcmejdkjfekoeaa
open Go.Pl
set_option maxHeartbeats 4000000
def I64 (a : Int) : Prop := -9223372036854775808 ≤ a ∧ a ≤ 9223372036854775807
instance (a : Int) : Decidable (I64 a) := by unfold I64; infer_instance
def absI (a : Int) : Int := if a < 0 then -a else a
theorem C_Size (a : Int) (ha : I64 a) : PCallG Try.prog 119 [.c (.int .i64 a)] (.c (.int .u64 (absI a))) [] := by
  obtain ⟨h1, h2⟩ := ha
  refine pcallF Try.func119 c119 rfl ?_
  unfold p119 r119_0 r119_1 r119_2 r119_3
  by_cases h : a < 0
  · repeat' (first | refine w_seq ?_ | refine w_ops ?_ | refine st_nil ?_ | refine th_n ?_ | refine th_r ?_ | refine w_ret ?_ | refine w_true rfl ?_ | refine mv_c rfl ?_ | refine lss_t rfl rfl (by omega) ?_ | refine conv_u rfl ?_ | refine negu_ rfl ?_)
    refine fin_r rfl ?_
    have : -(a % 18446744073709551616) % 18446744073709551616 = -a := by omega
    simp [one_, absI, h, this]
  · repeat' (first | refine w_seq ?_ | refine w_ops ?_ | refine st_nil ?_ | refine th_n ?_ | refine w_skip ?_ | refine w_ret ?_ | refine w_false rfl ?_ | refine mv_c rfl ?_ | refine lss_f rfl rfl (by omega) ?_ | refine conv_in rfl (wrapu_in (by omega)) ?_)
    exact fin_r rfl (by simp [one_, absI, h])
theorem halves (x y : Int) (x0 x1 y0 y1 : Int) (hx : x = x1 * 4294967296 + x0) (hy : y = y1 * 4294967296 + y0) :
    x * y = (x1 * y1) * 18446744073709551616 + (x1 * y0) * 4294967296 + (x0 * y1) * 4294967296 + x0 * y0 := by
  subst hx hy
  simp only [Int.add_mul, Int.mul_add]
  have e1 : x1 * 4294967296 * (y1 * 4294967296) = (x1 * y1) * 18446744073709551616 := by
    rw [Int.mul_assoc, Int.mul_left_comm 4294967296 y1, ← Int.mul_assoc]; rfl
  have e2 : x1 * 4294967296 * y0 = (x1 * y0) * 4294967296 := by rw [Int.mul_assoc, Int.mul_comm 4294967296, ← Int.mul_assoc]
  have e3 : x0 * (y1 * 4294967296) = (x0 * y1) * 4294967296 := by rw [Int.mul_assoc]
  omega
theorem prod_le {a b m : Int} (ha : 0 ≤ a) (ha' : a ≤ m) (hb : 0 ≤ b) (hb' : b ≤ m) : 0 ≤ a * b ∧ a * b ≤ m * m :=
  ⟨Int.mul_nonneg ha hb, Int.mul_le_mul ha' hb' hb (by omega)⟩
def mul64 (x y : Int) : CV := .tup [.int .u64 (x * y / 18446744073709551616), .int .u64 (x * y % 18446744073709551616)]
theorem C_Mul64 (x y : Int) (hx : 0 ≤ x ∧ x ≤ 18446744073709551615) (hy : 0 ≤ y ∧ y ≤ 18446744073709551615) : PCallG Try.prog 118 [.c (.int .u64 x), .c (.int .u64 y)] (.c (mul64 x y)) [] := by
  refine pcallF Try.func118 c118 rfl ?_
  unfold p118 r118_0 r118_1 r118_2 r118_3 r118_4 r118_5 r118_6 r118_7 r118_8 r118_9 r118_10 r118_11
  have e := halves x y (x % 4294967296) (x / 4294967296) (y % 4294967296) (y / 4294967296) (by omega) (by omega)
  have b00 := prod_le (a := x % 4294967296) (b := y % 4294967296) (m := 4294967295) (by omega) (by omega) (by omega) (by omega)
  have b10 := prod_le (a := x / 4294967296) (b := y % 4294967296) (m := 4294967295) (by omega) (by omega) (by omega) (by omega)
  have b01 := prod_le (a := x % 4294967296) (b := y / 4294967296) (m := 4294967295) (by omega) (by omega) (by omega) (by omega)
  have b11 := prod_le (a := x / 4294967296) (b := y / 4294967296) (m := 4294967295) (by omega) (by omega) (by omega) (by omega)
  have hp32 : (2 : Int) ^ 32 = 4294967296 := by decide
  have step : ∀ {C : CallP} {l : List POp} {s : PS} {K : PS → Prop} {d : Nat} {u v : PO} {a : Int}, s.ev u = .c (.int .u64 a) → s.ev v = .c (.int .u64 4294967295) → (0 ≤ a ∧ a ≤ 18446744073709551615) → wL C l (s.put d (.c (.int .u64 (a % 4294967296)))) K → wL C (⟨some d, .bin .and u v, none⟩ :: l) s K :=
    fun h1 h2 h3 h4 => and_mask 32 (by decide) (by decide) h1 h2 h3 (by rw [hp32]; exact h4)
  repeat' (first | refine step rfl rfl (by omega) ?_ | refine w_seq ?_ | refine w_ops ?_ | refine st_nil ?_ | refine th_n ?_ | refine w_ret ?_ | refine mv_c rfl ?_ | refine addu_in rfl rfl (by omega) ?_ | refine mulu_in rfl rfl (by first | assumption | omega) ?_ | refine shr_n (n := 32) (m := 4294967296) rfl rfl (by decide) (by decide) ?_ | refine mulu_ rfl rfl ?_)
  refine fin_r rfl ?_
  simp only [one_, mul64]
  generalize x * y = p at *
  generalize (x / 4294967296) * (y / 4294967296) = q11 at *
  generalize (x / 4294967296) * (y % 4294967296) = q10 at *
  generalize (x % 4294967296) * (y / 4294967296) = q01 at *
  generalize (x % 4294967296) * (y % 4294967296) = q00 at *
  congr 3
  omega
section
variable {C : CallP} {l : List POp} {s : PS} {K : PS → Prop} {d : Nat} {xs : List PO} {a b c : Int}
theorem adc_ (hx : evcs s xs = some [.int .u64 a, .int .u64 b, .int .u64 c]) (hc : 0 ≤ a ∧ 0 ≤ b ∧ 0 ≤ c ∧ c ≤ 1)
    (h : wL C l (s.put d (.c (.tup [.int .u64 ((a + b + c) % 18446744073709551616), .int .u64 ((a + b + c) / 18446744073709551616)]))) K) : wL C (⟨some d, .xf .adc xs, none⟩ :: l) s K :=
  xf_ hx (by simp only [xfC, if_pos hc]; rfl) h
theorem sbc_ (hx : evcs s xs = some [.int .u64 a, .int .u64 b, .int .u64 c]) (hc : 0 ≤ a ∧ 0 ≤ b ∧ b < 18446744073709551616 ∧ 0 ≤ c ∧ c ≤ 1)
    (h : ∀ bo : Int, (a < b + c ∧ bo = 1) ∨ (b + c ≤ a ∧ bo = 0) → wL C l (s.put d (.c (.tup [.int .u64 ((a - b - c) % 18446744073709551616), .int .u64 bo]))) K) : wL C (⟨some d, .xf .sbc xs, none⟩ :: l) s K :=
  xf_ hx (by have hc' : 0 ≤ a ∧ 0 ≤ b ∧ b < m64 ∧ 0 ≤ c ∧ c ≤ 1 := hc
             simp only [xfC, if_pos hc']; rfl) (h _ (by split <;> omega))
end
def W128 (z : Int) : Prop := -170141183460469231731687303715884105728 ≤ z ∧ z ≤ 170141183460469231731687303715884105727
def cellsW (z : Int) : List CV := [.int .i64 (z / 18446744073709551616), .int .u64 (z % 18446744073709551616)]
def encW (z : Int) : CV := .agg (cellsW z)
theorem encW_eq {z hi lo : Int} (h1 : hi = z / 18446744073709551616) (h2 : lo = z % 18446744073709551616) : CV.agg (cellsW z) = one_ [.agg [.int .i64 hi, .int .u64 lo]] := by
  subst h1 h2; rfl
theorem abs_prod (a b : Int) : absI a * absI b = if (a < 0) ≠ (b < 0) then -(a * b) else a * b := by
  unfold absI
  by_cases h1 : a < 0 <;> by_cases h2 : b < 0 <;> simp [h1, h2, Int.neg_mul, Int.mul_neg]
theorem absI_in {a : Int} (h : I64 a) : 0 ≤ absI a ∧ absI a ≤ 9223372036854775808 := by
  obtain ⟨h1, h2⟩ := h
  unfold absI; split <;> omega
theorem wrap_i64 (n : Int) : IntKind.i64.wrap n = (n + 9223372036854775808) % 18446744073709551616 - 9223372036854775808 := by
  simp [IntKind.wrap, IntKind.bits, IntKind.signed]
  omega
theorem C_Plus (z a b : Int) (hz : W128 z) (ha : I64 a) (hb : I64 b) (hr : W128 (z + a * b)) : PCallG Try.prog 90 [.c (encW z), .c (.int .i64 a), .c (.int .i64 b)] (.c (encW (z + a * b))) [] := by
  obtain ⟨hz1, hz2⟩ := hz
  obtain ⟨hr1, hr2⟩ := hr
  have hA := absI_in ha
  have hB := absI_in hb
  have hp := prod_le hA.1 hA.2 hB.1 hB.2
  have hab := abs_prod a b
  have hS1 := C_Size a ha
  have hS2 := C_Size b hb
  have hM := C_Mul64 (absI a) (absI b) (by omega) (by omega)
  unfold mul64 at hM
  generalize absI a * absI b = p at hp hab hM
  generalize a * b = q at hr1 hr2 hab
  refine pcallF Try.func90 c90 rfl ?_
  unfold p90 r90_0 r90_1 r90_2 r90_3 r90_4 r90_5 r90_6 r90_7 r90_8
  unfold encW
  have hx : (decide (a < 0) == decide (b < 0)) = true → p = q := fun e => by
    have e : (a < 0) = (b < 0) := by simpa using e
    simpa [e] using hab
  have hy : (decide (a < 0) == decide (b < 0)) = false → p = -q := fun e => by
    have e : ¬ ((a < 0) ↔ (b < 0)) := by simpa using e
    by_cases h1 : a < 0 <;> by_cases h2 : b < 0 <;> simp_all
  repeat' (first | refine call1 rfl hS1 ?_ | refine call1 rfl hS2 ?_ | refine call2 rfl rfl hM ?_ | refine adc_ rfl (by omega) ?_ | refine sbc_ rfl (by omega) (fun bo hbo => ?_) | refine w_seq ?_ | refine w_ops ?_ | refine st_nil ?_ | refine th_n ?_ | refine w_skip ?_ | refine w_ret ?_ | refine w_cond rfl (fun hc => ?_) (fun hc => ?_) | refine mv_c rfl ?_ | refine lss_ rfl rfl ?_ | refine neqB_ rfl rfl ?_ | refine conv_u rfl ?_ | refine alloc_ (fun u => ?_) | refine box_ rfl rfl rfl (fun u => ?_) | refine build_ rfl rfl ?_ | refine load_ptr rfl (by decide) rfl (Nat.le_of_ble_eq_true rfl) rfl ?_ | refine store_ptr rfl rfl (by decide) rfl rfl (Nat.le_of_ble_eq_true rfl) rfl ?_ | refine fad_ptr rfl rfl rfl ?_ | refine ext_ rfl rfl ?_ | refine conv_ rfl ?_)
  · have hpq := hy (by simpa using hc)
    refine fin_r (rv_cell rfl rfl rfl rfl rv_nil) ?_
    refine encW_eq ?_ ?_
    · rw [wrap_i64]; omega
    · omega
  · have hpq := hx (by simpa using hc)
    refine fin_r (rv_cell rfl rfl rfl rfl rv_nil) ?_
    refine encW_eq ?_ ?_
    · rw [wrap_i64]; omega
    · omega
theorem C_Int (z : Int) (hz : W128 z) : PCallG Try.prog 89 [.c (encW z)] (.c (if I64 z then .tup [.int .i64 z, .bool true] else .tup [.int .i64 0, .bool false])) [] := by
  obtain ⟨hz1, hz2⟩ := hz
  refine pcallF Try.func89 c89 rfl ?_
  unfold p89 r89_0 r89_1 r89_2 r89_3 r89_4
  unfold encW
  have hw : IntKind.i64.wrap (z % 18446744073709551616) = z ∨ ¬ I64 z := by
    rw [wrap_i64]; unfold I64; omega
  by_cases h : z % 18446744073709551616 < 9223372036854775808
  all_goals
    repeat' (first | refine w_seq ?_ | refine w_ops ?_ | refine st_nil ?_ | refine th_n ?_ | refine th_r ?_ | refine w_skip ?_ | refine w_ret ?_ | refine w_condd rfl (fun hc => ?_) (fun hc => ?_) | refine mv_c rfl ?_ | refine ned_ rfl rfl ?_ | refine shr_n (n := 63) (m := 9223372036854775808) rfl rfl (by decide) (by decide) ?_ | refine conv_in rfl (wrap64_in (by omega)) ?_ | refine conv_s rfl (wrap64_hi (by omega)) ?_ | refine box_ rfl rfl rfl (fun u => ?_) | refine load_ptr rfl (by decide) rfl (Nat.le_of_ble_eq_true rfl) rfl ?_ | refine fad_ptr rfl rfl rfl ?_)
  all_goals
    refine fin_r rfl ?_
    simp only [one_]
    by_cases hI : I64 z
    · rw [if_pos hI]
      unfold I64 at hI
      first | (exfalso; omega) | (congr 3; omega)
    · first
        | (rw [if_neg hI]; done)
        | (exfalso; unfold I64 at hI; omega)
end Go.Proofs.Ytcmejdkjfekoeaa
namespace Go.Proofs.Ytcmejdkjfekoeaa
open Go.Pl
set_option maxHeartbeats 4000000
def encI (a : Int) : List CV := [.int .i64 a]
def encIL (l : List Int) : CV := .sl (l.map encI)
def totI : List Int → Int
  | [] => 0
  | a :: l => a + totI l
def I64s (l : List Int) : Prop := ∀ a ∈ l, I64 a
theorem total_loop {K : Ex → PS → Prop} (l : List Int) (v4 : Nat) (hlen : l.length < 1000000000) : ∀ (rest : List Int) (i : Nat) (z : Int) (s : PS), l.drop i = rest → i ≤ l.length → I64s rest →
    -(9223372036854775808 * (i : Int)) ≤ z → z ≤ 9223372036854775808 * (i : Int) →
    s.t 7 = .c (encIL l) → s.t 8 = .c (.int .i64 l.length) → s.t 9 = .c (.int .i64 i) → s.t 4 = .ptr 4 v4 0 → s.bx 4 = ⟨v4, .var (cellsW z)⟩ →
    (∀ s', s'.t 4 = .ptr 4 v4 0 → s'.bx 4 = ⟨v4, .var (cellsW (z + totI rest))⟩ → W128 (z + totI rest) → K (.x 0) s') → wP (PCallG Try.prog) (.loop b32_0) s K := by
  intro rest
  induction rest with
  | nil =>
    intro i z s hd hi hr h0 h1 t7 t8 t9 t4 b4 hx
    refine w_loop ?_
    have hi' : i = l.length := by have := List.drop_eq_nil_iff.mp hd; omega
    subst hi'
    rw [← put_same t8, ← put_same t9, ← put_same t4, ← box_same b4]
    unfold b32_0 r32_3 r32_4 r32_5 r32_6
    repeat' (first | refine w_seq ?_ | refine w_ops ?_ | refine st_nil ?_ | refine th_n ?_ | refine th_x ?_ | refine w_exit ?_ | refine w_false rfl ?_ | refine lss_f rfl rfl (by omega) ?_)
    exact hx _ (by rfl) (by simp only [totI, Int.add_zero]; rfl) (by simp only [totI, Int.add_zero]; constructor <;> omega)
  | cons a rest ih =>
    intro i z s hd hi hr h0 h1 t7 t8 t9 t4 b4 hx
    refine w_loop ?_
    have hl : i < l.length := by have := congrArg List.length hd; simp at this; omega
    have hn : l.drop (i + 1) = rest := by have := congrArg List.tail hd; simpa [List.tail_drop] using this
    have he : (l.map encI)[i]? = some (encI a) := by
      have : l[i]? = some a := by have := congrArg List.head? hd; simpa [List.head?_drop] using this
      simp [this]
    have ha := hr a (by simp)
    have hr' : I64s rest := fun b hb => hr b (by simp [hb])
    obtain ⟨a1, a2⟩ := ha
    have hP := C_Plus z a 1 (by constructor <;> omega) ⟨a1, a2⟩ (by constructor <;> omega) (by constructor <;> omega)
    rw [Int.mul_one] at hP
    have e : z + totI (a :: rest) = z + a + totI rest := by simp only [totI]; omega
    rw [e] at hx
    rw [← put_same t7, ← put_same t8, ← put_same t9, ← put_same t4, ← box_same b4]
    unfold b32_0 r32_3 r32_4 r32_5 r32_6
    repeat' (first | refine call3 rfl rfl rfl hP ?_ | refine w_seq ?_ | refine w_ops ?_ | refine st_nil ?_ | refine th_n ?_ | refine bk_n ?_ | refine w_block ?_ | refine w_skip ?_ | refine w_true rfl ?_ | refine mv_c rfl ?_ | refine lss_t rfl rfl (by omega) ?_ | refine add_in rfl rfl (by omega) ?_ | refine load_rp rfl (Nat.le_of_ble_eq_true rfl) rfl ?_ | refine load_ptr rfl (by decide) rfl (Nat.le_of_ble_eq_true rfl) rfl ?_ | refine store_ptr rfl rfl (by decide) rfl rfl (Nat.le_of_ble_eq_true rfl) rfl ?_ | refine iaS_c rfl rfl (by omega) (by assumption) rfl ?_)
    exact ih (i + 1) (z + a) _ hn (by omega) hr' (by omega) (by omega) (by rfl) (by rfl) (by rfl) (by rfl) (by rfl) hx
def totB (l : List Int) : CV := if I64 (totI l) then .tup [.int .i64 (totI l), .bool true] else .tup [.int .i64 0, .bool false]
theorem C_Total (l : List Int) (hlen : l.length < 1000000000) (hr : I64s l) : PCallG Try.prog 32 [.c (encIL l)] (.c (totB l)) [] := by
  refine pcallF Try.func32 c32 rfl ?_
  unfold p32 r32_0 r32_1 r32_2 r32_7
  repeat' (first | refine w_seq ?_ | refine w_ops ?_ | refine st_nil ?_ | refine th_n ?_ | refine w_block ?_ | refine mv_c rfl ?_ | refine alloc_ (fun u => ?_) | refine len_sl rfl (by first | assumption | exact List.length_map _) ?_)
  refine total_loop l _ hlen l 0 0 _ rfl (by omega) hr (by omega) (by omega) (by rfl) (by rfl) (by rfl) (by rfl) (by rfl) ?_
  intro s' t4 b4 hW
  rw [Int.zero_add] at b4 hW
  have hI := C_Int _ hW
  rw [← put_same t4, ← box_same b4]
  by_cases h : I64 (totI l)
  · rw [if_pos h] at hI
    repeat' (first | refine call1 rfl hI ?_ | refine w_seq ?_ | refine w_ops ?_ | refine st_nil ?_ | refine th_n ?_ | refine bk_x ?_ | refine w_ret ?_ | refine mv_c rfl ?_ | refine load_ptr rfl (by decide) rfl (Nat.le_of_ble_eq_true rfl) rfl ?_ | refine ext_ rfl rfl ?_)
    exact fin_r rfl (by simp [one_, totB, h])
  · rw [if_neg h] at hI
    repeat' (first | refine call1 rfl hI ?_ | refine w_seq ?_ | refine w_ops ?_ | refine st_nil ?_ | refine th_n ?_ | refine bk_x ?_ | refine w_ret ?_ | refine mv_c rfl ?_ | refine load_ptr rfl (by decide) rfl (Nat.le_of_ble_eq_true rfl) rfl ?_ | refine ext_ rfl rfl ?_)
    exact fin_r rfl (by simp [one_, totB, h])
end Go.Proofs.Ytcmejdkjfekoeaa
namespace Go.Proofs.Ytcmejdkjfekoeaa
open Go.Pl Go.Bag
set_option maxHeartbeats 4000000
theorem fin_own' {i d ver n : Nat} {sz : Nat} {es zs : List (List CV)} {s : PS} (h : s.t i = .osl d ver 0 n) (hb : s.bx d = ⟨ver, .sl sz zs⟩) (hz : zs = es) (hn : n = zs.length) : FinK [.t i] (.own sz es) .r s := by
  subst hz; exact fin_own h hb hn
theorem set_last (k : List Run) (r q : Run) : (encE (k ++ [r])).set k.length (encR q) = encE (k ++ [q]) := by
  simp [encE, List.set_append]
theorem C_more (l : List Run) (v n : Int) (hlen : l.length < 1000000000) (hb : ∀ r ∈ l, -9223372036854775808 ≤ r.2 + n ∧ r.2 + n ≤ 9223372036854775807) :
    PCallG Try.prog 84 [.own 2 (encE l), .c (.int .i64 v), .c (.int .i64 n)] (.own 2 (encE (moreL l v n))) [] := by
  refine pcallF Try.func84 c84 rfl ?_
  unfold p84 r84_0 r84_1 r84_2 r84_3 r84_4 r84_5
  rcases snoc_cases l with rfl | ⟨k, r, rfl⟩
  · have hg : (encE []).length = 0 := rfl
    have hm : ([] : List (List CV)).length + [[CV.int .i64 v, .int .i64 n]].length ≤ maxGrow := by simp [maxGrow]
    repeat' (first | refine w_seq ?_ | refine w_ops ?_ | refine st_nil ?_ | refine th_n ?_ | refine w_skip ?_ | refine w_ret ?_ | refine w_false rfl ?_ | refine g_no rfl ?_ | refine mv_c rfl ?_ | refine mv_osl rfl ?_ | refine pick_f rfl rfl ?_ | refine geq_f rfl rfl (by omega) ?_ | refine sub_in rfl rfl (by omega) ?_ | refine own0_ (fun u => ?_) | refine build_ rfl rfl ?_ | refine bsl_ rfl rfl ?_ | refine len_osl rfl rfl ?_ | refine app_own rfl rfl rfl rfl (by first | assumption | omega | (simp; omega)) (by first | (intro e he; cases List.mem_singleton.mp he; rfl) | assumption) rfl rfl (fun _ _ => ?_))
    exact fin_own rfl rfl rfl
  · have hr := hb r (by simp)
    have hk : (encE (k ++ [r])).length = k.length + 1 := by simp [encE]
    have hk9 : k.length < 1000000000 := by simp only [List.length_append, List.length_cons, List.length_nil] at hlen; omega
    have hn : (((k.length + 1 : Nat) : Int) - 1).toNat = k.length := by omega
    have hget : (encE (k ++ [r]))[(((encE (k ++ [r])).length : Int) - 1).toNat]? = some (encR r) := by rw [hk, hn]; simp [encE]
    have hgrow : (encE (k ++ [r])).length + [[CV.int .i64 v, .int .i64 n]].length ≤ maxGrow := by
      rw [hk]; simp [maxGrow] at *; omega
    by_cases hv : r.1 = v
    · subst hv
      rw [moreL_eq]
      repeat' (first | refine w_seq ?_ | refine w_ops ?_ | refine st_nil ?_ | refine th_n ?_ | refine th_r ?_ | refine w_ret ?_ | refine w_true rfl ?_ | refine g_yes rfl ?_ | refine mv_c rfl ?_ | refine mv_osl rfl ?_ | refine pick_t rfl rfl ?_ | refine geq_t rfl rfl (by omega) ?_ | refine eql_t rfl rfl (by omega) ?_ | refine add_in rfl rfl (by omega) ?_ | refine sub_in rfl rfl (by omega) ?_ | refine own0_ (fun u => ?_) | refine load_sp rfl (by decide) rfl (by assumption) (Nat.le_of_ble_eq_true rfl) rfl ?_ | refine store_sp rfl rfl (by decide) rfl (by assumption) rfl (Nat.le_of_ble_eq_true rfl) rfl ?_ | refine fad_sp rfl rfl rfl ?_ | refine iaS_osl rfl rfl rfl (by omega) rfl ?_ | refine len_osl rfl rfl ?_)
      refine fin_own' rfl rfl ?_ ?_
      · rw [← set_last k r (r.1, r.2 + n), hk, hn]
        rfl
      · rw [List.length_set]
    · rw [moreL_ne k r v n hv]
      repeat' (first | refine w_seq ?_ | refine w_ops ?_ | refine st_nil ?_ | refine th_n ?_ | refine w_skip ?_ | refine w_ret ?_ | refine w_false rfl ?_ | refine g_yes rfl ?_ | refine mv_c rfl ?_ | refine mv_osl rfl ?_ | refine pick_t rfl rfl ?_ | refine geq_t rfl rfl (by omega) ?_ | refine eql_f rfl rfl (by omega) ?_ | refine sub_in rfl rfl (by omega) ?_ | refine own0_ (fun u => ?_) | refine build_ rfl rfl ?_ | refine bsl_ rfl rfl ?_ | refine load_sp rfl (by decide) rfl (by assumption) (Nat.le_of_ble_eq_true rfl) rfl ?_ | refine fad_sp rfl rfl rfl ?_ | refine iaS_osl rfl rfl rfl (by omega) rfl ?_ | refine len_osl rfl rfl ?_ | refine app_own rfl rfl rfl rfl (by first | assumption | omega | (simp; omega)) (by first | (intro e he; cases List.mem_singleton.mp he; rfl) | assumption) rfl rfl (fun _ _ => ?_))
      refine fin_own' rfl rfl ?_ ?_
      · simp [encE]; rfl
      · rfl
end Go.Proofs.Ytcmejdkjfekoeaa
namespace Go.Proofs.Ytcmejdkjfekoeaa
open Go.Pl Go.Bag
set_option maxHeartbeats 8000000
theorem of_loop {K : Ex → PS → Prop} (l : List Int) (hlen : l.length < 400000000) : ∀ (rest : List Int) (i : Nat) (out : List Run) (s : PS), l.drop i = rest → i ≤ l.length → pos out → out.length ≤ i → sum out ≤ i →
    s.t 8 = .c (encIL l) → s.t 9 = .c (.int .i64 l.length) → s.t 10 = .c (.int .i64 i) → s.t 3 = .osl 3 (s.bx 3).ver 0 (encE out).length → s.bx 3 = ⟨(s.bx 3).ver, .sl 2 (encE out)⟩ →
    (∀ s' v, s'.t 3 = .osl 3 v 0 (encE (ofS out rest)).length → s'.bx 3 = ⟨v, .sl 2 (encE (ofS out rest))⟩ → K (.x 0) s') → wP (PCallG Try.prog) (.loop b21_0) s K := by
  intro rest
  induction rest with
  | nil =>
    intro i out s hd hi hp hl hs t8 t9 t10 t3 b3 hx
    refine w_loop ?_
    have hi' : i = l.length := by have := List.drop_eq_nil_iff.mp hd; omega
    subst hi'
    generalize (s.bx 3).ver = v3 at t3 b3
    rw [← put_same t8, ← put_same t9, ← put_same t10, ← put_same t3, ← box_same b3]
    unfold b21_0 r21_3 r21_4 r21_5 r21_6
    repeat' (first | refine w_seq ?_ | refine w_ops ?_ | refine st_nil ?_ | refine th_n ?_ | refine th_x ?_ | refine w_exit ?_ | refine w_false rfl ?_ | refine lss_f rfl rfl (by omega) ?_)
    exact hx _ _ (by rfl) (by rfl)
  | cons a rest ih =>
    intro i out s hd hi hp hl hs t8 t9 t10 t3 b3 hx
    refine w_loop ?_
    have hil : i < l.length := by have := congrArg List.length hd; simp at this; omega
    have hn : l.drop (i + 1) = rest := by have := congrArg List.tail hd; simpa [List.tail_drop] using this
    have he : (l.map encI)[i]? = some (encI a) := by
      have : l[i]? = some a := by have := congrArg List.head? hd; simpa [List.head?_drop] using this
      simp [this]
    have hM := C_more out a 1 (by omega) fun q hq => by have := le_sum hp q hq; omega
    generalize (s.bx 3).ver = v3 at t3 b3
    rw [← put_same t8, ← put_same t9, ← put_same t10, ← put_same t3, ← box_same b3]
    unfold b21_0 r21_3 r21_4 r21_5 r21_6
    repeat' (first | refine callO2 rfl rfl rfl rfl rfl hM rfl (fun _ _ => ?_) | refine w_seq ?_ | refine w_ops ?_ | refine st_nil ?_ | refine th_n ?_ | refine bk_n ?_ | refine w_block ?_ | refine w_skip ?_ | refine w_true rfl ?_ | refine mv_c rfl ?_ | refine mv_osl rfl ?_ | refine lss_t rfl rfl (by omega) ?_ | refine add_in rfl rfl (by omega) ?_ | refine load_rp rfl (Nat.le_of_ble_eq_true rfl) rfl ?_ | refine iaS_c rfl rfl (by omega) (by assumption) rfl ?_ | refine w_rn rfl (by decide) rfl rfl (fun _ _ => ?_))
    exact ih (i + 1) (moreL out a 1) _ hn (by omega) (moreL_pos hp (Int.le_refl _)) (by have := moreL_len out a 1; omega) (by rw [moreL_sum]; omega) (by rfl) (by rfl) (by rfl) (by rfl) (by rfl) hx
theorem C_Of (l : List Int) (hlen : l.length < 400000000) : PCallG Try.prog 21 [.c (encIL l)] (.c (encL (ofL l))) [] := by
  refine pcallF Try.func21 c21 rfl ?_
  have h1 : PCallG Try.prog 83 [.c (encIL l)] (.c (.clo 117 (encIL l))) [] := C_Values l
  have h2 : PCallG Try.prog 82 [.c (.clo 117 (encIL l))] (.c (encIL (srt l))) [] := C_Sorted l (by omega)
  have hl : (srt l).length = l.length := (srt_perm l).length_eq
  unfold p21 r21_0 r21_1 r21_2 r21_7
  repeat' (first | refine call1 rfl h1 ?_ | refine call1 rfl h2 ?_ | refine len_sl rfl (List.length_map _) ?_ | refine w_seq ?_ | refine w_ops ?_ | refine st_nil ?_ | refine th_n ?_ | refine w_block ?_ | refine mv_c rfl ?_ | refine own0_ (fun u => ?_))
  refine of_loop (srt l) (by omega) (srt l) 0 [] _ rfl (by omega) (fun q hq => by simp at hq) (by simp) (by simp [sum]) (by rfl) (by rfl) (by rfl) (by rfl) (by rfl) ?_
  intro s' v t3 b3
  rw [← put_same t3, ← box_same b3]
  repeat' (first | refine w_seq ?_ | refine w_ops ?_ | refine st_nil ?_ | refine th_n ?_ | refine bk_x ?_ | refine w_ret ?_ | refine mv_osl rfl ?_)
  exact fin_r (rv_own rfl rfl rfl rv_nil) rfl
end Go.Proofs.Ytcmejdkjfekoeaa
namespace Go.Proofs.Ytcmejdkjfekoeaa
open Go.Pl Go.Bag
set_option maxHeartbeats 4000000
theorem good_loop {C : CallP} {K : Ex → PS → Prop} (l : List Run) (hlen : l.length < 4611686018427387904) : ∀ (rest : List Run) (i : Nat) (sum : Int) (p : Option Int) (s : PS), l.drop i = rest → i ≤ l.length → 0 ≤ sum → sum ≤ 1099511627776 →
    (i = 0 → p = none) → (0 < i → ∃ q, (l.map encR)[((i : Int) - 1).toNat]? = some (encR q) ∧ p = some q.1) →
    s.t 0 = .c (encL l) → s.t 6 = .c (encL l) → s.t 7 = .c (.int .i64 l.length) → s.t 8 = .c (.int .i64 i) → s.t 3 = .c (.int .i64 sum) →
    (goodFrom p sum rest = true → ∀ s', K (.x 0) s') → (goodFrom p sum rest = false → ∀ s', s'.t 2 = .c (.bool false) → K .r s') → wP C (.loop b26_0) s K := by
  intro rest
  induction rest with
  | nil =>
    intro i sum p s hd hi h0 h1 hp0 hp1 t0 t6 t7 t8 t3 hx hr
    refine w_loop ?_
    have := get_end hd hi
    subst this
    rw [← put_same t7, ← put_same t8]
    unfold b26_0 r26_3 r26_4 r26_5 r26_6 r26_7 r26_8
    repeat' (first | refine w_seq ?_ | refine w_ops ?_ | refine st_nil ?_ | refine th_n ?_ | refine th_x ?_ | refine w_exit ?_ | refine w_false rfl ?_ | refine lss_f rfl rfl (by omega) ?_)
    exact hx rfl _
  | cons r rest ih =>
    intro i sum p s hd hi h0 h1 hp0 hp1 t0 t6 t7 t8 t3 hx hr
    refine w_loop ?_
    have he := get_enc hd
    have hl := get_len hd
    have hn := get_next hd
    rw [← put_same t0, ← put_same t6, ← put_same t7, ← put_same t8, ← put_same t3]
    unfold b26_0 r26_3 r26_4 r26_5 r26_6 r26_7 r26_8
    have next : ∀ s'', (p.any (fun a => decide (r.1 ≤ a)) = false) → 1 ≤ r.2 → r.2 ≤ 1099511627776 - sum → s''.t 0 = .c (encL l) → s''.t 6 = .c (encL l) → s''.t 7 = .c (.int .i64 l.length) → s''.t 8 = .c (.int .i64 (i + 1)) → s''.t 3 = .c (.int .i64 (sum + r.2)) → wP C (.loop b26_0) s'' K := by
      intro s'' g1 g2 g3 u0 u6 u7 u8 u3
      have e : goodFrom p sum (r :: rest) = goodFrom (some r.1) (sum + r.2) rest := by
        have : ¬ r.2 < 1 := by omega
        have : ¬ cap - sum < r.2 := by unfold cap; omega
        simp [goodFrom, *]
      rw [e] at hx hr
      refine ih (i + 1) (sum + r.2) (some r.1) s'' hn (by omega) (by omega) (by omega) (by omega) (fun _ => ⟨r, ?_, rfl⟩) u0 u6 u7 u8 u3 hx hr
      have : (((i + 1 : Nat) : Int) - 1).toNat = i := by omega
      rw [this]; exact he
    have bad : ∀ s'', (p.any (fun a => decide (r.1 ≤ a)) = true ∨ r.2 < 1 ∨ 1099511627776 - sum < r.2) → s''.t 2 = .c (.bool false) → K .r s'' := by
      intro s'' g u2
      refine hr ?_ s'' u2
      rcases g with g | g | g
      · simp [goodFrom, g]
      · simp [goodFrom, g]
      · have : cap - sum < r.2 := g
        simp [goodFrom, this]
    rcases Nat.eq_zero_or_pos i with hz | hz
    · have hp := hp0 hz
      repeat' (first | refine w_seq ?_ | refine w_ops ?_ | refine w_opsD0 rfl ?_ | refine st_nil ?_ | refine th_n ?_ | refine th_r ?_ | refine bk_n ?_ | refine bk_r ?_ | refine w_block ?_ | refine w_skip ?_ | refine w_ret ?_ | refine w_true rfl ?_ | refine w_condd rfl (fun hc => ?_) (fun hc => ?_) | refine g_yes rfl ?_ | refine g_no rfl ?_ | refine g_splitd rfl (fun hg => ?_) (fun hg => ?_) | refine mv_c rfl ?_ | refine pick_t rfl rfl ?_ | refine pick_f rfl rfl ?_ | refine lss_t rfl rfl (by omega) ?_ | refine lss_ rfl rfl ?_ | refine gtr_f rfl rfl (by omega) ?_ | refine gtr_ rfl rfl ?_ | refine add_in rfl rfl (by omega) ?_ | refine sub_in rfl rfl (by omega) ?_ | refine alloc_ (fun u => ?_) | refine load_rp rfl (Nat.le_of_ble_eq_true rfl) rfl ?_ | refine load_ptr rfl (by decide) rfl (Nat.le_of_ble_eq_true rfl) rfl ?_ | refine store_ptr rfl rfl (by decide) rfl rfl (Nat.le_of_ble_eq_true rfl) rfl ?_ | refine fad_ptr rfl rfl rfl ?_ | refine iaS_c rfl rfl (by omega) (by assumption) rfl ?_)
      all_goals (first | exact next _ (by simp [hp]) (by omega) (by omega) rfl rfl rfl rfl rfl | exact bad _ (.inr (by omega)) rfl | exact bad _ (.inl (by simp [hp]; omega)) rfl)
    · obtain ⟨q, hq, hp⟩ := hp1 hz
      repeat' (first | refine w_seq ?_ | refine w_ops ?_ | refine w_opsD0 rfl ?_ | refine st_nil ?_ | refine th_n ?_ | refine th_r ?_ | refine bk_n ?_ | refine bk_r ?_ | refine w_block ?_ | refine w_skip ?_ | refine w_ret ?_ | refine w_true rfl ?_ | refine w_condd rfl (fun hc => ?_) (fun hc => ?_) | refine g_yes rfl ?_ | refine g_no rfl ?_ | refine g_splitd rfl (fun hg => ?_) (fun hg => ?_) | refine mv_c rfl ?_ | refine pick_t rfl rfl ?_ | refine pick_f rfl rfl ?_ | refine lss_t rfl rfl (by omega) ?_ | refine lss_ rfl rfl ?_ | refine gtr_t rfl rfl (by omega) ?_ | refine gtr_ rfl rfl ?_ | refine geq_ rfl rfl ?_ | refine add_in rfl rfl (by omega) ?_ | refine sub_in rfl rfl (by omega) ?_ | refine alloc_ (fun u => ?_) | refine load_rp rfl (Nat.le_of_ble_eq_true rfl) rfl ?_ | refine load_ptr rfl (by decide) rfl (Nat.le_of_ble_eq_true rfl) rfl ?_ | refine store_ptr rfl rfl (by decide) rfl rfl (Nat.le_of_ble_eq_true rfl) rfl ?_ | refine fad_ptr rfl rfl rfl ?_ | refine fad_rp rfl (Nat.le_of_ble_eq_true rfl) rfl ?_ | refine iaS_c rfl rfl (by omega) (by assumption) rfl ?_)
      all_goals (first | exact next _ (by simp [hp]; omega) (by omega) (by omega) rfl rfl rfl rfl rfl | exact bad _ (.inr (by omega)) rfl | exact bad _ (.inl (by simp [hp]; omega)) rfl)
theorem C_good (l : List Run) (hlen : l.length < 4611686018427387904) : PCallG Try.prog 26 [.c (encL l)] (.c (.bool (good l))) [] := by
  refine pcallF Try.func26 c26 rfl ?_
  have t0 : (initPS [.c (encL l)]).t 0 = .c (encL l) := rfl
  rw [← put_same t0]
  unfold p26 r26_0 r26_1 r26_2
  repeat' (first | refine w_seq ?_ | refine w_ops ?_ | refine st_nil ?_ | refine th_n ?_ | refine w_block ?_ | refine mv_c rfl ?_ | refine len_sl rfl (by first | assumption | exact List.length_map _) ?_)
  refine good_loop l hlen l 0 0 none _ rfl (by omega) (by omega) (by omega) (fun _ => rfl) (fun h => by omega) rfl rfl (by simp [PS.put, encL]) rfl rfl ?_ ?_
  · intro hg s'
    unfold r26_9
    repeat' (first | refine w_seq ?_ | refine w_ops ?_ | refine st_nil ?_ | refine th_n ?_ | refine bk_x ?_ | refine w_ret ?_ | refine mv_c rfl ?_)
    exact ⟨_, rfl, by unfold good; rw [hg]; rfl⟩
  · intro hg s' h2
    repeat' (first | refine th_r ?_ | refine bk_r ?_)
    exact ⟨[.bool false], by simp [rsVals, rs26, rsVal, h2, PS.close], by unfold good; rw [hg]; rfl⟩
end Go.Proofs.Ytcmejdkjfekoeaa
namespace Go.Proofs.Ytcmejdkjfekoeaa
open Go.Pl Go.Bag
set_option maxHeartbeats 4000000
theorem count_loop {C : CallP} {K : Ex → PS → Prop} (l : List Run) (hlen : l.length < 4611686018427387904) : ∀ (rest : List Run) (i : Nat) (acc : Int) (s : PS), l.drop i = rest → i ≤ l.length → pos rest → 0 ≤ acc → acc + sum rest ≤ 1099511627776 →
    s.t 6 = .c (encL l) → s.t 7 = .c (.int .i64 l.length) → s.t 8 = .c (.int .i64 i) → s.t 3 = .c (.int .i64 acc) →
    (∀ s', s'.t 3 = .c (.int .i64 (acc + sum rest)) → K (.x 0) s') → wP C (.loop b86_0) s K := by
  intro rest
  induction rest with
  | nil =>
    intro i acc s hd hi hp h0 h1 t6 t7 t8 t3 hx
    refine w_loop ?_
    have := get_end hd hi
    subst this
    rw [← put_same t7, ← put_same t8, ← put_same t3]
    unfold b86_0 r86_3 r86_4 r86_5 r86_6
    repeat' (first | refine w_seq ?_ | refine w_ops ?_ | refine st_nil ?_ | refine th_n ?_ | refine th_x ?_ | refine w_exit ?_ | refine w_false rfl ?_ | refine lss_f rfl rfl (by omega) ?_)
    exact hx _ (by simp [sum]; rfl)
  | cons r rest ih =>
    intro i acc s hd hi hp h0 h1 t6 t7 t8 t3 hx
    refine w_loop ?_
    have he := get_enc hd
    have hl := get_len hd
    have hn := get_next hd
    have hr := hp r (by simp)
    have hp' : pos rest := fun q hq => hp q (by simp [hq])
    have hs := sum_nonneg hp'
    have e : acc + sum (r :: rest) = acc + r.2 + sum rest := by simp only [sum]; omega
    rw [e] at h1 hx
    rw [← put_same t6, ← put_same t7, ← put_same t8, ← put_same t3]
    unfold b86_0 r86_3 r86_4 r86_5 r86_6
    repeat' (first | refine w_seq ?_ | refine w_ops ?_ | refine st_nil ?_ | refine th_n ?_ | refine bk_n ?_ | refine w_block ?_ | refine w_skip ?_ | refine w_true rfl ?_ | refine mv_c rfl ?_ | refine lss_t rfl rfl (by omega) ?_ | refine add_in rfl rfl (by omega) ?_ | refine alloc_ (fun u => ?_) | refine load_rp rfl (Nat.le_of_ble_eq_true rfl) rfl ?_ | refine load_ptr rfl (by decide) rfl (Nat.le_of_ble_eq_true rfl) rfl ?_ | refine store_ptr rfl rfl (by decide) rfl rfl (Nat.le_of_ble_eq_true rfl) rfl ?_ | refine fad_ptr rfl rfl rfl ?_ | refine iaS_c rfl rfl (by omega) (by assumption) rfl ?_)
    exact ih (i + 1) (acc + r.2) _ hn (by omega) hp' (by omega) (by omega) rfl rfl rfl rfl hx
theorem C_count (l : List Run) (hlen : l.length < 4611686018427387904) (hp : pos l) (hs : sum l ≤ 1099511627776) : PCallG Try.prog 86 [.c (encL l)] (.c (.int .i64 (sum l))) [] := by
  refine pcallF Try.func86 c86 rfl ?_
  unfold p86 r86_0 r86_1 r86_2 r86_7
  repeat' (first | refine w_seq ?_ | refine w_ops ?_ | refine st_nil ?_ | refine th_n ?_ | refine w_block ?_ | refine mv_c rfl ?_ | refine len_sl rfl (by first | assumption | exact List.length_map _) ?_)
  refine count_loop l hlen l 0 0 _ rfl (by omega) hp (by omega) (by omega) rfl rfl rfl rfl (fun s' h3 => ?_)
  rw [← put_same h3]
  repeat' (first | refine w_seq ?_ | refine w_ops ?_ | refine st_nil ?_ | refine th_n ?_ | refine bk_x ?_ | refine w_ret ?_ | refine mv_c rfl ?_)
  exact fin_r rfl (by simp [one_])
theorem C_Count (l : List Run) (hlen : l.length < 4611686018427387904) : PCallG Try.prog 27 [.c (encL l)] (.c (.int .i64 (if good l then sum l else 0))) [] := by
  refine pcallF Try.func27 c27 rfl ?_
  unfold p27 r27_0 r27_1 r27_2 r27_3
  by_cases hg : good l = true
  · obtain ⟨hp, hs⟩ := good_facts hg
    have hC := C_good l hlen
    rw [hg] at hC
    repeat' (first | refine call1 rfl hC ?_ | refine call1 rfl (C_count l hlen hp hs) ?_ | refine w_seq ?_ | refine w_ops ?_ | refine st_nil ?_ | refine th_n ?_ | refine w_skip ?_ | refine w_ret ?_ | refine w_false rfl ?_ | refine mv_c rfl ?_ | refine not_ rfl ?_)
    exact fin_r rfl (by simp [one_, hg])
  · simp only [Bool.not_eq_true] at hg
    have hC := C_good l hlen
    rw [hg] at hC
    repeat' (first | refine call1 rfl hC ?_ | refine w_seq ?_ | refine w_ops ?_ | refine st_nil ?_ | refine th_n ?_ | refine th_r ?_ | refine w_ret ?_ | refine w_true rfl ?_ | refine mv_c rfl ?_ | refine not_ rfl ?_)
    exact fin_r rfl (by simp [one_, hg])
end Go.Proofs.Ytcmejdkjfekoeaa
namespace Go.Proofs.Ytcmejdkjfekoeaa
open Go.Pl Go.Bag
set_option maxHeartbeats 4000000
theorem part_loop {K : Ex → PS → Prop} (l o : List Run) (hlen : l.length < 4611686018427387904) (v4 v5 : Nat) (c4 : List CV) : ∀ (rest : List Run) (i : Nat) (z : Int) (s : PS), l.drop i = rest → i ≤ l.length → pos rest → ranged rest →
    -(9223372036854775808 * (2199023255552 - sum rest)) ≤ z → z ≤ 9223372036854775808 * (2199023255552 - sum rest) → sum rest ≤ 2199023255552 →
    s.t 10 = .c (encL l) → s.t 11 = .c (.int .i64 l.length) → s.t 12 = .c (.int .i64 i) → s.t 1 = .c (encL o) → s.t 4 = .ptr 4 v4 0 → s.bx 4 = ⟨v4, .var c4⟩ → s.t 5 = .ptr 5 v5 0 → s.bx 5 = ⟨v5, .var (cellsW z)⟩ →
    (∀ s', s'.t 1 = .c (encL o) → s'.t 4 = .ptr 4 v4 0 → s'.bx 4 = ⟨v4, .var c4⟩ → s'.t 5 = .ptr 5 v5 0 → s'.bx 5 = ⟨v5, .var (cellsW (z + wsum rest))⟩ → K (.x 0) s') → wP (PCallG Try.prog) (.loop b88_0) s K := by
  intro rest
  induction rest with
  | nil =>
    intro i z s hd hi hp hr h0 h1 h2 t10 t11 t12 t1 t4 b4 t5 b5 hx
    refine w_loop ?_
    have := get_end hd hi
    subst this
    rw [← put_same t11, ← put_same t12, ← put_same t1, ← put_same t4, ← put_same t5, ← box_same b4, ← box_same b5]
    unfold b88_0 r88_3 r88_4 r88_5 r88_6
    repeat' (first | refine w_seq ?_ | refine w_ops ?_ | refine st_nil ?_ | refine th_n ?_ | refine th_x ?_ | refine w_exit ?_ | refine w_false rfl ?_ | refine lss_f rfl rfl (by omega) ?_)
    exact hx _ rfl rfl rfl rfl (by simp only [wsum, Int.add_zero]; rfl)
  | cons r rest ih =>
    intro i z s hd hi hp hr h0 h1 h2 t10 t11 t12 t1 t4 b4 t5 b5 hx
    refine w_loop ?_
    have he := get_enc hd
    have hl := get_len hd
    have hn := get_next hd
    have hr1 := hp r (by simp)
    have hp' : pos rest := fun q hq => hp q (by simp [hq])
    have hr' : ranged rest := fun q hq => hr q (by simp [hq])
    have hs := sum_nonneg hp'
    have hrr := hr r (by simp)
    have hm := mul_bound hrr.1 (show 0 ≤ r.2 by omega)
    have e : z + wsum (r :: rest) = z + r.1 * r.2 + wsum rest := by simp only [wsum]; omega
    have es : sum (r :: rest) = r.2 + sum rest := rfl
    rw [e] at hx
    rw [es] at h0 h1 h2
    have hP := C_Plus z r.1 r.2 (by constructor <;> omega) hrr.1 hrr.2 (by constructor <;> omega)
    rw [← put_same t10, ← put_same t11, ← put_same t12, ← put_same t1, ← put_same t4, ← put_same t5, ← box_same b4, ← box_same b5]
    unfold b88_0 r88_3 r88_4 r88_5 r88_6
    repeat' (first | refine call3 rfl rfl rfl hP ?_ | refine w_seq ?_ | refine w_ops ?_ | refine st_nil ?_ | refine th_n ?_ | refine bk_n ?_ | refine w_block ?_ | refine w_skip ?_ | refine w_true rfl ?_ | refine mv_c rfl ?_ | refine lss_t rfl rfl (by omega) ?_ | refine add_in rfl rfl (by omega) ?_ | refine alloc_ (fun u => ?_) | refine load_rp rfl (Nat.le_of_ble_eq_true rfl) rfl ?_ | refine load_ptr rfl (by decide) rfl (Nat.le_of_ble_eq_true rfl) rfl ?_ | refine store_ptr rfl rfl (by decide) rfl rfl (Nat.le_of_ble_eq_true rfl) rfl ?_ | refine fad_ptr rfl rfl rfl ?_ | refine iaS_c rfl rfl (by omega) (by assumption) rfl ?_)
    exact ih (i + 1) (z + r.1 * r.2) _ hn (by omega) hp' hr' (by omega) (by omega) (by omega) rfl rfl rfl rfl rfl rfl rfl rfl hx
theorem part_loop2 {K : Ex → PS → Prop} (l : List Run) (hlen : l.length < 4611686018427387904) (v4 v5 : Nat) (c4 : List CV) : ∀ (rest : List Run) (i : Nat) (z : Int) (s : PS), l.drop i = rest → i ≤ l.length → pos rest → ranged rest →
    -(9223372036854775808 * (4398046511104 - sum rest)) ≤ z → z ≤ 9223372036854775808 * (4398046511104 - sum rest) → sum rest ≤ 4398046511104 →
    s.t 23 = .c (encL l) → s.t 24 = .c (.int .i64 l.length) → s.t 25 = .c (.int .i64 i) → s.t 4 = .ptr 4 v4 0 → s.bx 4 = ⟨v4, .var c4⟩ → s.t 5 = .ptr 5 v5 0 → s.bx 5 = ⟨v5, .var (cellsW z)⟩ →
    (∀ s', s'.t 4 = .ptr 4 v4 0 → s'.bx 4 = ⟨v4, .var c4⟩ → s'.t 5 = .ptr 5 v5 0 → s'.bx 5 = ⟨v5, .var (cellsW (z - wsum rest))⟩ → K (.x 2) s') → wP (PCallG Try.prog) (.loop b88_1) s K := by
  intro rest
  induction rest with
  | nil =>
    intro i z s hd hi hp hr h0 h1 h2 t10 t11 t12 t4 b4 t5 b5 hx
    refine w_loop ?_
    have := get_end hd hi
    subst this
    rw [← put_same t11, ← put_same t12, ← put_same t4, ← put_same t5, ← box_same b4, ← box_same b5]
    unfold b88_1 r88_8 r88_9 r88_10 r88_11
    repeat' (first | refine w_seq ?_ | refine w_ops ?_ | refine st_nil ?_ | refine th_n ?_ | refine th_x ?_ | refine w_exit ?_ | refine w_false rfl ?_ | refine lss_f rfl rfl (by omega) ?_)
    exact hx _ rfl rfl rfl (by simp only [wsum, Int.sub_zero]; rfl)
  | cons r rest ih =>
    intro i z s hd hi hp hr h0 h1 h2 t10 t11 t12 t4 b4 t5 b5 hx
    refine w_loop ?_
    have he := get_enc hd
    have hl := get_len hd
    have hn := get_next hd
    have hr1 := hp r (by simp)
    have hp' : pos rest := fun q hq => hp q (by simp [hq])
    have hr' : ranged rest := fun q hq => hr q (by simp [hq])
    have hs := sum_nonneg hp'
    have hrr := hr r (by simp)
    have hm := mul_bound hrr.1 (show 0 ≤ r.2 by omega)
    have e : z - wsum (r :: rest) = z + r.1 * -r.2 - wsum rest := by simp only [wsum, Int.mul_neg]; omega
    have es : sum (r :: rest) = r.2 + sum rest := rfl
    rw [e] at hx
    rw [es] at h0 h1 h2
    have hmn : r.1 * -r.2 = -(r.1 * r.2) := Int.mul_neg _ _
    have hP := C_Plus z r.1 (-r.2) (by constructor <;> omega) hrr.1 (by constructor <;> omega) (by constructor <;> omega)
    rw [← put_same t10, ← put_same t11, ← put_same t12, ← put_same t4, ← put_same t5, ← box_same b4, ← box_same b5]
    unfold b88_1 r88_8 r88_9 r88_10 r88_11
    repeat' (first | refine call3 rfl rfl rfl hP ?_ | refine w_seq ?_ | refine w_ops ?_ | refine st_nil ?_ | refine th_n ?_ | refine bk_n ?_ | refine w_block ?_ | refine w_skip ?_ | refine w_true rfl ?_ | refine mv_c rfl ?_ | refine lss_t rfl rfl (by omega) ?_ | refine neg_in rfl (by omega) ?_ | refine add_in rfl rfl (by omega) ?_ | refine alloc_ (fun u => ?_) | refine load_rp rfl (Nat.le_of_ble_eq_true rfl) rfl ?_ | refine load_ptr rfl (by decide) rfl (Nat.le_of_ble_eq_true rfl) rfl ?_ | refine store_ptr rfl rfl (by decide) rfl rfl (Nat.le_of_ble_eq_true rfl) rfl ?_ | refine fad_ptr rfl rfl rfl ?_ | refine iaS_c rfl rfl (by omega) (by assumption) rfl ?_)
    exact ih (i + 1) (z + r.1 * -r.2) _ hn (by omega) hp' hr' (by omega) (by omega) (by omega) rfl rfl rfl rfl rfl rfl rfl hx
theorem C_Part (l o : List Run) (hlen : l.length < 4611686018427387904) (holen : o.length < 4611686018427387904) (hp : pos l) (hr : ranged l) (hs : sum l ≤ 1099511627776) (hpo : pos o) (hro : ranged o) (hso : sum o ≤ 1099511627776) :
    PCallG Try.prog 88 [.c (encL l), .c (encL o)] (.c (encW (wsum l - wsum o))) [] := by
  have hn := sum_nonneg hp
  have hno := sum_nonneg hpo
  have hb := wsum_bound hp hr
  refine pcallF Try.func88 c88 rfl ?_
  unfold p88 r88_0 r88_1 r88_2 r88_7 r88_12
  repeat' (first | refine w_seq ?_ | refine w_ops ?_ | refine st_nil ?_ | refine th_n ?_ | refine w_block ?_ | refine mv_c rfl ?_ | refine alloc_ (fun u => ?_) | refine len_sl rfl (by first | assumption | exact List.length_map _) ?_)
  refine part_loop l o hlen _ _ _ l 0 0 _ rfl (by omega) hp hr (by omega) (by omega) (by omega) rfl rfl rfl rfl rfl rfl rfl rfl ?_
  intro s' t1 t4 b4 t5 b5
  rw [← put_same t1, ← put_same t4, ← put_same t5, ← box_same b4, ← box_same b5]
  repeat' (first | refine w_seq ?_ | refine w_ops ?_ | refine st_nil ?_ | refine th_n ?_ | refine bk_x ?_ | refine w_block ?_ | refine mv_c rfl ?_ | refine len_sl rfl (by first | assumption | exact List.length_map _) ?_)
  refine part_loop2 o holen _ _ _ o 0 (0 + wsum l) _ rfl (by omega) hpo hro (by omega) (by omega) (by omega) rfl rfl rfl rfl rfl rfl rfl ?_
  intro s' t4 b4 t5 b5
  rw [← put_same t4, ← put_same t5, ← box_same b4, ← box_same b5]
  repeat' (first | refine w_seq ?_ | refine w_ops ?_ | refine st_nil ?_ | refine th_n ?_ | refine bk_x ?_ | refine w_ret ?_ | refine load_ptr rfl (by decide) rfl (Nat.le_of_ble_eq_true rfl) rfl ?_ | refine store_ptr rfl rfl (by decide) rfl rfl (Nat.le_of_ble_eq_true rfl) rfl ?_)
  refine fin_r (rv_cell rfl rfl rfl rfl rv_nil) ?_
  rw [Int.zero_add]
  rfl
end Go.Proofs.Ytcmejdkjfekoeaa

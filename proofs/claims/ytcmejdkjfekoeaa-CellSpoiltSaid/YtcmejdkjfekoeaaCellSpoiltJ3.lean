/- Part of the proof of CellSpoilt: lemmas. -/
import Derived.Test.YtcmejdkjfekoeaaCSpoilS1
import Derived.Test.YtcmejdkjfekoeaaCellSpoiltJ2
import Derived.Shelf.SlIterI.Sorted
import Derived.Shelf.SortM.Plain
import Derived.Shelf.SortM.SortNone
import Derived.Test.YtcmejdkjfekoeaaProg
set_option linter.unusedVariables false
set_option linter.unusedSimpArgs false
/-
  BAGS, PLAIN: what the functions of package bag compute, of lists of pairs. No program in sight. My own work.
-/
namespace Go.Bag
open Go.Pl
abbrev Run := Int × Int
def encR (r : Run) : List CV := [.int .i64 r.1, .int .i64 r.2]
def encL (l : List Run) : CV := .sl (l.map encR)
def cap : Int := 1099511627776
def goodFrom : Option Int → Int → List Run → Bool
  | _, _, [] => true
  | p, s, r :: l => !(p.any (fun a => decide (r.1 ≤ a))) && !(decide (r.2 < 1)) && !(decide (cap - s < r.2)) && goodFrom (some r.1) (s + r.2) l
def good (l : List Run) : Bool := goodFrom none 0 l
def sum : List Run → Int
  | [] => 0
  | r :: l => r.2 + sum l
def pos (l : List Run) : Prop := ∀ r ∈ l, 1 ≤ r.2
theorem sum_nonneg : ∀ {l : List Run}, pos l → 0 ≤ sum l
  | [], _ => by simp [sum]
  | r :: l, h => by
    have := h r (by simp)
    have := sum_nonneg (l := l) fun q hq => h q (by simp [hq])
    simp only [sum]; omega
theorem goodFrom_facts : ∀ {l : List Run} {p : Option Int} {s : Int}, s ≤ cap → goodFrom p s l = true → pos l ∧ s + sum l ≤ cap
  | [], _, s, hs, _ => ⟨fun r hr => by simp at hr, by simpa [sum] using hs⟩
  | r :: l, p, s, hs, h => by
    simp only [goodFrom, Bool.and_eq_true, Bool.not_eq_true', decide_eq_false_iff_not] at h
    obtain ⟨⟨⟨_, h1⟩, h2⟩, h3⟩ := h
    obtain ⟨g1, g2⟩ := goodFrom_facts (by omega) h3
    refine ⟨fun q hq => ?_, by simp only [sum]; omega⟩
    rcases List.mem_cons.mp hq with rfl | hq
    · omega
    · exact g1 q hq
theorem good_facts {l : List Run} (h : good l = true) : pos l ∧ sum l ≤ cap := by
  have := goodFrom_facts (by decide) h
  exact ⟨this.1, by simpa using this.2⟩
def has (l : List Run) (v : Int) : Int := match l.find? (fun r => r.1 == v) with | some r => r.2 | none => 0
theorem encR_len (l : List Run) : ∀ e ∈ l.map encR, e.length = 2 := by
  intro e he
  obtain ⟨r, _, rfl⟩ := List.mem_map.mp he
  rfl
theorem get_enc {l : List Run} {i : Nat} {r : Run} {rest : List Run} (h : l.drop i = r :: rest) : (l.map encR)[i]? = some (encR r) := by
  have : l[i]? = some r := by
    have := congrArg List.head? h
    simpa [List.head?_drop] using this
  simp [this]
theorem get_len {l : List Run} {i : Nat} {r : Run} {rest : List Run} (h : l.drop i = r :: rest) : i < l.length := by
  have := congrArg List.length h
  simp at this
  omega
theorem get_next {l : List Run} {i : Nat} {r : Run} {rest : List Run} (h : l.drop i = r :: rest) : l.drop (i + 1) = rest := by
  have := congrArg List.tail h
  simpa [List.tail_drop] using this
theorem get_end {l : List Run} {i : Nat} (h : l.drop i = []) (hi : i ≤ l.length) : i = l.length := by
  have := List.drop_eq_nil_iff.mp h
  omega
def wsum : List Run → Int
  | [] => 0
  | r :: l => r.1 * r.2 + wsum l
def ranged (l : List Run) : Prop := ∀ r ∈ l, (-9223372036854775808 ≤ r.1 ∧ r.1 ≤ 9223372036854775807) ∧ (-9223372036854775808 ≤ r.2 ∧ r.2 ≤ 9223372036854775807)
theorem mul_bound {a n : Int} (h : -9223372036854775808 ≤ a ∧ a ≤ 9223372036854775807) (hn : 0 ≤ n) : -(9223372036854775808 * n) ≤ a * n ∧ a * n ≤ 9223372036854775808 * n := by
  have h1 : a * n ≤ 9223372036854775808 * n := Int.mul_le_mul_of_nonneg_right (by omega) hn
  have h2 : (-9223372036854775808) * n ≤ a * n := Int.mul_le_mul_of_nonneg_right (by omega) hn
  omega
theorem wsum_bound : ∀ {l : List Run}, pos l → ranged l → -(9223372036854775808 * sum l) ≤ wsum l ∧ wsum l ≤ 9223372036854775808 * sum l
  | [], _, _ => by simp [wsum, sum]
  | r :: l, h, hr => by
    have h1 := h r (by simp)
    have h2 := wsum_bound (l := l) (fun q hq => h q (by simp [hq])) (fun q hq => hr q (by simp [hq]))
    have h3 := mul_bound (hr r (by simp)).1 (show 0 ≤ r.2 by omega)
    simp only [wsum, sum]
    omega
end Go.Bag
/-
  BAGS, PLAIN, the second part. My own work.
-/
namespace Go.Bag
open Go.Pl
def encE (l : List Run) : List (List CV) := l.map encR
def moreL (l : List Run) (v n : Int) : List Run :=
  match l.getLast? with
  | some r => if r.1 = v then l.dropLast ++ [(r.1, r.2 + n)] else l ++ [(v, n)]
  | none => [(v, n)]
theorem moreL_nil (v n : Int) : moreL [] v n = [(v, n)] := rfl
theorem moreL_eq (l : List Run) (r : Run) (n : Int) : moreL (l ++ [r]) r.1 n = l ++ [(r.1, r.2 + n)] := by simp [moreL]
theorem moreL_ne (l : List Run) (r : Run) (v n : Int) (h : r.1 ≠ v) : moreL (l ++ [r]) v n = l ++ [r] ++ [(v, n)] := by simp [moreL, h]
theorem snoc_cases (l : List Run) : l = [] ∨ ∃ k r, l = k ++ [r] := by
  rcases List.eq_nil_or_concat l with h | ⟨k, r, h⟩
  · exact .inl h
  · exact .inr ⟨k, r, by simpa using h⟩
theorem sum_append : ∀ (l k : List Run), sum (l ++ k) = sum l + sum k
  | [], k => by simp [sum]
  | r :: l, k => by simp only [List.cons_append, sum, sum_append l k]; omega
theorem moreL_sum (l : List Run) (v n : Int) : sum (moreL l v n) = sum l + n := by
  rcases snoc_cases l with rfl | ⟨k, r, rfl⟩
  · simp [moreL_nil, sum]
  · by_cases hv : r.1 = v
    · subst hv; rw [moreL_eq, sum_append, sum_append]; simp only [sum]; omega
    · rw [moreL_ne _ _ _ _ hv, sum_append]; simp only [sum]; omega
theorem moreL_len (l : List Run) (v n : Int) : (moreL l v n).length ≤ l.length + 1 := by
  rcases snoc_cases l with rfl | ⟨k, r, rfl⟩
  · simp [moreL_nil]
  · by_cases hv : r.1 = v
    · subst hv; rw [moreL_eq]; simp
    · rw [moreL_ne _ _ _ _ hv]; simp
theorem moreL_pos {l : List Run} {v n : Int} (h : pos l) (hn : 1 ≤ n) : pos (moreL l v n) := by
  rcases snoc_cases l with rfl | ⟨k, r, rfl⟩
  · intro q hq; simp [moreL_nil] at hq; subst hq; exact hn
  · have hr := h r (by simp)
    by_cases hv : r.1 = v
    · subst hv; rw [moreL_eq]
      intro q hq
      rcases List.mem_append.mp hq with hq | hq
      · exact h q (by simp [hq])
      · simp at hq; subst hq; show 1 ≤ r.2 + n; omega
    · rw [moreL_ne _ _ _ _ hv]
      intro q hq
      rcases List.mem_append.mp hq with hq | hq
      · exact h q hq
      · simp at hq; subst hq; exact hn
theorem le_sum : ∀ {l : List Run}, pos l → ∀ q ∈ l, 1 ≤ q.2 ∧ q.2 ≤ sum l
  | [], _, q, hq => by simp at hq
  | r :: l, h, q, hq => by
    have hp : pos l := fun q hq => h q (by simp [hq])
    have h0 := sum_nonneg hp
    have h1 := h r (by simp)
    rcases List.mem_cons.mp hq with rfl | hq
    · simp only [sum]; omega
    · have := le_sum hp q hq
      simp only [sum]; omega
def merge : List Run → List Run → List Run → List Run
  | out, [], [] => out
  | out, [], s :: b => merge (moreL out s.1 s.2) [] b
  | out, r :: a, [] => merge (moreL out r.1 r.2) a []
  | out, r :: a, s :: b => if s.1 < r.1 then merge (moreL out s.1 s.2) (r :: a) b else merge (moreL out r.1 r.2) a (s :: b)
termination_by _ a b => a.length + b.length
def join (a b : List Run) : List Run × Bool := if good a = true ∧ good b = true ∧ sum a ≤ 1099511627776 - sum b then (merge [] a b, true) else ([], false)
end Go.Bag
/-
  BAGS, PLAIN, the third part: one without the other. My own work.
-/
namespace Go.Bag
open Go.Pl
def takeB (r : Run) (b : List Run) : Int × List Run :=
  match b with
  | s :: b' => if s.1 = r.1 then (r.2 - s.2, b') else (r.2, s :: b')
  | [] => (r.2, [])
def minusL : List Run → List Run → List Run → Option (List Run × List Run)
  | out, [], b => some (out, b)
  | out, r :: a, b => if (takeB r b).1 < 0 then none else minusL (if 0 < (takeB r b).1 then out ++ [(r.1, (takeB r b).1)] else out) a (takeB r b).2
def minus (a b : List Run) : List Run × Bool :=
  if good a = true ∧ good b = true then (match minusL [] a b with | some (o, []) => (o, true) | _ => ([], false)) else ([], false)
end Go.Bag
/-
  BAGS, PLAIN, the fourth part: the document's laying of a value. My own work.
-/
namespace Go.Bag
open Go.Pl
def keepR (x : Run) : List Run := if x.2 ≠ 0 then [x] else []
def layB (v n : Int) : Bool → List Run → List Run × Bool
  | d, [] => ([], d)
  | d, x :: l =>
    if d = false ∧ v ≤ x.1 then
      (if v < x.1 then ([(v, n)] ++ (keepR x ++ (layB v n true l).1), (layB v n true l).2)
       else (keepR (x.1, x.2 + n) ++ (layB v n true l).1, (layB v n true l).2))
    else (keepR x ++ (layB v n d l).1, (layB v n d l).2)
def lay (l : List Run) (v n : Int) : List Run := if (layB v n false l).2 then (layB v n false l).1 else (layB v n false l).1 ++ [(v, n)]
end Go.Bag
/-
  BAGS, PLAIN, the fifth part: what the functions compute is true. A bag is told by how often each value is there. My own work.
-/
namespace Go.Bag
open Go.Pl
def asc (l : List Run) : Prop := l.Pairwise fun r s => r.1 < s.1
def cnt : List Run → Int → Int
  | [], _ => 0
  | r :: l, v => (if r.1 = v then r.2 else 0) + cnt l v
theorem cnt_append : ∀ (l k : List Run) (v : Int), cnt (l ++ k) v = cnt l v + cnt k v
  | [], k, v => by simp [cnt]
  | r :: l, k, v => by simp only [List.cons_append, cnt, cnt_append l k v]; omega
theorem cnt_none : ∀ {l : List Run} {v : Int}, (∀ r ∈ l, r.1 ≠ v) → cnt l v = 0
  | [], _, _ => rfl
  | r :: l, v, h => by simp [cnt, h r (by simp), cnt_none (l := l) (v := v) fun q hq => h q (by simp [hq])]
theorem cnt_nonneg : ∀ {l : List Run} (v : Int), pos l → 0 ≤ cnt l v
  | [], _, _ => by simp [cnt]
  | r :: l, v, h => by
    have := h r (by simp)
    have := cnt_nonneg (l := l) v fun q hq => h q (by simp [hq])
    simp only [cnt]; split <;> omega
theorem cnt_pos : ∀ {l : List Run} {r : Run}, pos l → r ∈ l → r.2 ≤ cnt l r.1
  | [], r, _, hr => by simp at hr
  | q :: l, r, h, hr => by
    have hp : pos l := fun q hq => h q (by simp [hq])
    have h1 := h q (by simp)
    rcases List.mem_cons.mp hr with rfl | hr
    · have := cnt_nonneg r.1 hp
      simp only [cnt, if_true]; omega
    · have := cnt_pos hp hr
      simp only [cnt]; split <;> omega
theorem asc_cons {r : Run} {l : List Run} : asc (r :: l) ↔ (∀ q ∈ l, r.1 < q.1) ∧ asc l := by simp [asc]
theorem ext : ∀ {a b : List Run}, asc a → asc b → pos a → pos b → (∀ v, cnt a v = cnt b v) → a = b
  | [], [], _, _, _, _, _ => rfl
  | [], s :: b, _, _, _, hb, h => by
    have := cnt_pos hb (r := s) (by simp)
    have h1 := h s.1
    have := hb s (by simp)
    simp only [cnt] at h1 this
    simp only [cnt] at *
    omega
  | r :: a, [], _, _, ha, _, h => by
    have := cnt_pos ha (r := r) (by simp)
    have h1 := h r.1
    have := ha r (by simp)
    simp only [cnt] at *
    omega
  | r :: a, s :: b, ra, sb, ha, hb, h => by
    obtain ⟨h1, h2⟩ := asc_cons.mp ra
    obtain ⟨h3, h4⟩ := asc_cons.mp sb
    have pr := ha r (by simp)
    have ps := hb s (by simp)
    have pa : pos a := fun q hq => ha q (by simp [hq])
    have pb : pos b := fun q hq => hb q (by simp [hq])
    have e : r.1 = s.1 := by
      rcases Int.lt_trichotomy r.1 s.1 with hlt | he | hlt
      · have := h r.1
        have z1 : cnt (s :: b) r.1 = 0 := cnt_none fun q hq => by
          rcases List.mem_cons.mp hq with rfl | hq
          · omega
          · have := h3 q hq; omega
        have := cnt_pos ha (r := r) (by simp)
        omega
      · exact he
      · have := h s.1
        have z1 : cnt (r :: a) s.1 = 0 := cnt_none fun q hq => by
          rcases List.mem_cons.mp hq with rfl | hq
          · omega
          · have := h1 q hq; omega
        have := cnt_pos hb (r := s) (by simp)
        omega
    have ea : cnt a r.1 = 0 := cnt_none fun q hq => by have := h1 q hq; omega
    have eb : cnt b s.1 = 0 := cnt_none fun q hq => by have := h3 q hq; omega
    have e2 : r.2 = s.2 := by
      have := h r.1
      simp only [cnt, e, if_true] at this
      rw [e] at ea
      omega
    have er : r = s := Prod.ext e e2
    subst er
    rw [ext (a := a) (b := b) h2 h4 pa pb fun v => by
      have := h v
      simp only [cnt] at this
      omega]
/-! ### may be -/
theorem goodFrom_asc : ∀ {l : List Run} {p : Option Int} {s : Int}, goodFrom p s l = true → asc l ∧ ∀ a, p = some a → ∀ r ∈ l, a < r.1
  | [], p, s, _ => ⟨by simp [asc], fun a _ r hr => by simp at hr⟩
  | r :: l, p, s, h => by
    simp only [goodFrom, Bool.and_eq_true, Bool.not_eq_true', decide_eq_false_iff_not] at h
    obtain ⟨⟨⟨h0, h1⟩, h2⟩, h3⟩ := h
    obtain ⟨g1, g2⟩ := goodFrom_asc h3
    refine ⟨asc_cons.mpr ⟨g2 r.1 rfl, g1⟩, fun a ha q hq => ?_⟩
    subst ha
    have h0' : a < r.1 := by simpa using h0
    rcases List.mem_cons.mp hq with rfl | hq
    · exact h0'
    · have := g2 r.1 rfl q hq; omega
theorem goodFrom_mk : ∀ {l : List Run} {p : Option Int} {s : Int}, asc l → pos l → s + sum l ≤ cap → (∀ a, p = some a → ∀ r ∈ l, a < r.1) → goodFrom p s l = true
  | [], _, _, _, _, _, _ => rfl
  | r :: l, p, s, ha, hp, hs, hf => by
    obtain ⟨h1, h2⟩ := asc_cons.mp ha
    have hpl : pos l := fun q hq => hp q (by simp [hq])
    have := sum_nonneg hpl
    have h3 := hp r (by simp)
    simp only [sum] at hs
    have h4 : (p.any fun a => decide (r.1 ≤ a)) = false := by
      cases p with
      | none => rfl
      | some a =>
        have := hf a rfl r (by simp)
        simp; omega
    simp only [goodFrom, h4, Bool.not_false, Bool.true_and, Bool.and_eq_true, Bool.not_eq_true', decide_eq_false_iff_not]
    refine ⟨⟨by omega, by omega⟩, goodFrom_mk h2 hpl (by omega) fun a ha q hq => ?_⟩
    cases ha
    exact h1 q hq
theorem good_iff {l : List Run} : good l = true ↔ asc l ∧ pos l ∧ sum l ≤ cap := by
  constructor
  · intro h
    exact ⟨(goodFrom_asc h).1, good_facts h⟩
  · intro ⟨h1, h2, h3⟩
    exact goodFrom_mk h1 h2 (by simpa using h3) fun a ha => by cases ha
/-! ### a value more -/
def upto (v : Int) (l : List Run) : Prop := ∀ r ∈ l, r.1 ≤ v
theorem moreL_cnt (l : List Run) (v n u : Int) : cnt (moreL l v n) u = cnt l u + if v = u then n else 0 := by
  rcases snoc_cases l with rfl | ⟨k, r, rfl⟩
  · simp [moreL_nil, cnt]
  · by_cases hv : r.1 = v
    · subst hv; rw [moreL_eq, cnt_append, cnt_append]; simp only [cnt]; split <;> omega
    · rw [moreL_ne _ _ _ _ hv, cnt_append]; simp only [cnt]; omega
theorem asc_snoc {l : List Run} {r : Run} : asc (l ++ [r]) ↔ asc l ∧ ∀ q ∈ l, q.1 < r.1 := by
  simp [asc, List.pairwise_append]
theorem moreL_asc {l : List Run} {v n : Int} (h : asc l) (hu : upto v l) : asc (moreL l v n) := by
  rcases snoc_cases l with rfl | ⟨k, r, rfl⟩
  · simp [moreL_nil, asc]
  · by_cases hv : r.1 = v
    · subst hv; rw [moreL_eq]; exact asc_snoc.mpr ⟨(asc_snoc.mp h).1, fun q hq => (asc_snoc.mp h).2 q hq⟩
    · rw [moreL_ne _ _ _ _ hv]
      have h1 := hu r (by simp)
      refine asc_snoc.mpr ⟨h, fun q hq => ?_⟩
      rcases List.mem_append.mp hq with hq | hq
      · have := (asc_snoc.mp h).2 q hq
        show q.1 < v
        omega
      · simp at hq; subst hq; show q.1 < v; omega
theorem moreL_upto {l : List Run} {v n : Int} (hu : upto v l) : upto v (moreL l v n) := by
  rcases snoc_cases l with rfl | ⟨k, r, rfl⟩
  · intro q hq; simp [moreL_nil] at hq; subst hq; exact Int.le_refl _
  · by_cases hv : r.1 = v
    · subst hv; rw [moreL_eq]
      intro q hq
      rcases List.mem_append.mp hq with hq | hq
      · exact hu q (by simp [hq])
      · simp at hq; subst hq; exact Int.le_refl _
    · rw [moreL_ne _ _ _ _ hv]
      intro q hq
      rcases List.mem_append.mp hq with hq | hq
      · exact hu q hq
      · simp at hq; subst hq; exact Int.le_refl _
theorem upto_le {l : List Run} {v u : Int} (h : upto v l) (hv : v ≤ u) : upto u l := fun r hr => by have := h r hr; omega
/-! ### all of two -/
theorem merge_facts : ∀ (m : Nat) (out a b : List Run), a.length + b.length = m → asc out → asc a → asc b → pos out → pos a → pos b → (∀ r ∈ a, upto r.1 out) → (∀ r ∈ b, upto r.1 out) →
    asc (merge out a b) ∧ pos (merge out a b) ∧ (∀ v, cnt (merge out a b) v = cnt out v + cnt a v + cnt b v) ∧ sum (merge out a b) = sum out + sum a + sum b := by
  intro m
  induction m with
  | zero =>
    intro out a b hm ho ha hb po pa pb ua ub
    obtain rfl : a = [] := List.eq_nil_of_length_eq_zero (by omega)
    obtain rfl : b = [] := List.eq_nil_of_length_eq_zero (by omega)
    simp [merge, cnt, sum, ho, po]
  | succ m ih =>
    intro out a b hm ho ha hb po pa pb ua ub
    have tail : ∀ {r : Run} {l : List Run}, asc (r :: l) → pos (r :: l) → asc l ∧ pos l ∧ 1 ≤ r.2 ∧ ∀ q ∈ l, r.1 < q.1 := fun h k =>
      ⟨(asc_cons.mp h).2, fun q hq => k q (by simp [hq]), k _ (by simp), (asc_cons.mp h).1⟩
    match a, b, hm with
    | [], s :: b, hm =>
      obtain ⟨h1, h2, h3, h4⟩ := tail hb pb
      have hu := ub s (by simp)
      have := ih (moreL out s.1 s.2) [] b (by simpa using hm) (moreL_asc ho hu) ha h1 (moreL_pos po h3) pa h2 (fun r hr => by simp at hr)
        (fun r hr => upto_le (moreL_upto hu) (by have := h4 r hr; omega))
      rw [show merge out [] (s :: b) = merge (moreL out s.1 s.2) [] b by simp only [merge]]
      refine ⟨this.1, this.2.1, fun v => ?_, ?_⟩
      · rw [this.2.2.1, moreL_cnt]; simp only [cnt]; omega
      · rw [this.2.2.2, moreL_sum]; simp only [sum]; omega
    | r :: a, [], hm =>
      obtain ⟨h1, h2, h3, h4⟩ := tail ha pa
      have hu := ua r (by simp)
      have := ih (moreL out r.1 r.2) a [] (by simpa using hm) (moreL_asc ho hu) h1 hb (moreL_pos po h3) h2 pb
        (fun q hq => upto_le (moreL_upto hu) (by have := h4 q hq; omega)) (fun r hr => by simp at hr)
      rw [show merge out (r :: a) [] = merge (moreL out r.1 r.2) a [] by simp only [merge]]
      refine ⟨this.1, this.2.1, fun v => ?_, ?_⟩
      · rw [this.2.2.1, moreL_cnt]; simp only [cnt]; omega
      · rw [this.2.2.2, moreL_sum]; simp only [sum]; omega
    | r :: a, s :: b, hm =>
      obtain ⟨h1, h2, h3, h4⟩ := tail ha pa
      obtain ⟨k1, k2, k3, k4⟩ := tail hb pb
      by_cases hlt : s.1 < r.1
      · have hu := ub s (by simp)
        have := ih (moreL out s.1 s.2) (r :: a) b (by simp at hm ⊢; omega) (moreL_asc ho hu) ha k1 (moreL_pos po k3) pa k2
          (fun q hq => upto_le (moreL_upto hu) (by
            rcases List.mem_cons.mp hq with rfl | hq
            · omega
            · have := h4 q hq; omega))
          (fun q hq => upto_le (moreL_upto hu) (by have := k4 q hq; omega))
        rw [show merge out (r :: a) (s :: b) = merge (moreL out s.1 s.2) (r :: a) b by rw [merge]; simp [hlt]]
        refine ⟨this.1, this.2.1, fun v => ?_, ?_⟩
        · rw [this.2.2.1, moreL_cnt]; simp only [cnt]; omega
        · rw [this.2.2.2, moreL_sum]; simp only [sum]; omega
      · have hu := ua r (by simp)
        have := ih (moreL out r.1 r.2) a (s :: b) (by simp at hm ⊢; omega) (moreL_asc ho hu) h1 hb (moreL_pos po h3) h2 pb
          (fun q hq => upto_le (moreL_upto hu) (by have := h4 q hq; omega))
          (fun q hq => upto_le (moreL_upto hu) (by
            rcases List.mem_cons.mp hq with rfl | hq
            · omega
            · have := k4 q hq; omega))
        rw [show merge out (r :: a) (s :: b) = merge (moreL out r.1 r.2) a (s :: b) by rw [merge]; simp [hlt]]
        refine ⟨this.1, this.2.1, fun v => ?_, ?_⟩
        · rw [this.2.2.1, moreL_cnt]; simp only [cnt]; omega
        · rw [this.2.2.2, moreL_sum]; simp only [sum]; omega
/-! ### one without the other -/
def sub (b a : List Run) : Prop := ∀ v, cnt b v ≤ cnt a v
/-! ### the bag of values -/
def ofS : List Run → List Int → List Run
  | out, [] => out
  | out, v :: l => ofS (moreL out v 1) l
def srt (l : List Int) : List Int := l.mergeSort fun x y => decide (x ≤ y)
def ofL (l : List Int) : List Run := ofS [] (srt l)
def num (l : List Int) (v : Int) : Int := (l.count v : Nat)
theorem num_nil (v : Int) : num [] v = 0 := rfl
theorem num_cons (x : Int) (l : List Int) (v : Int) : num (x :: l) v = num l v + if x = v then 1 else 0 := by
  simp only [num, List.count_cons]
  by_cases h : x = v
  · simp [h]
  · simp [h]
theorem ofS_facts : ∀ (l : List Int) (out : List Run), l.Pairwise (· ≤ ·) → asc out → pos out → (∀ v ∈ l, upto v out) →
    asc (ofS out l) ∧ pos (ofS out l) ∧ (∀ v, cnt (ofS out l) v = cnt out v + num l v) ∧ sum (ofS out l) = sum out + l.length ∧ (ofS out l).length ≤ out.length + l.length
  | [], out, _, ho, po, _ => by simp [ofS, ho, po, num_nil]
  | x :: l, out, hs, ho, po, hu => by
    obtain ⟨h1, h2⟩ := List.pairwise_cons.mp hs
    have hx := hu x (by simp)
    have := ofS_facts l (moreL out x 1) h2 (moreL_asc ho hx) (moreL_pos po (Int.le_refl _)) (fun v hv => upto_le (moreL_upto hx) (h1 v hv))
    refine ⟨this.1, this.2.1, fun v => ?_, ?_, ?_⟩
    · rw [ofS, this.2.2.1, moreL_cnt, num_cons]; omega
    · rw [ofS, this.2.2.2.1, moreL_sum]; simp; omega
    · have := this.2.2.2.2
      have := moreL_len out x 1
      rw [ofS]; simp only [List.length_cons]; omega
theorem srt_perm (l : List Int) : (srt l).Perm l := List.mergeSort_perm _ _
theorem srt_sorted (l : List Int) : (srt l).Pairwise (· ≤ ·) := by
  have := List.pairwise_mergeSort (le := fun x y : Int => decide (x ≤ y)) (fun a b c h1 h2 => by simp at *; omega) (fun a b => by simp; omega) l
  simpa [srt] using this
theorem ofL_facts (l : List Int) : asc (ofL l) ∧ pos (ofL l) ∧ (∀ v, cnt (ofL l) v = num l v) ∧ sum (ofL l) = l.length ∧ (ofL l).length ≤ l.length := by
  have := ofS_facts (srt l) [] (srt_sorted l) (by simp [asc]) (fun q hq => by simp at hq) (fun v _ q hq => by simp at hq)
  have hl := (srt_perm l).length_eq
  refine ⟨this.1, this.2.1, fun v => ?_, ?_, ?_⟩
  · rw [ofL, this.2.2.1]
    simp only [cnt, num, (srt_perm l).count_eq]; omega
  · rw [ofL, this.2.2.2.1, hl]; simp [sum]
  · have := this.2.2.2.2
    rw [hl] at this; simpa [ofL] using this
theorem good_ofL {l : List Int} (h : l.length ≤ 1000000) : good (ofL l) = true := by
  obtain ⟨h1, h2, _, h4, _⟩ := ofL_facts l
  exact good_iff.mpr ⟨h1, h2, by rw [h4]; simp [cap]; omega⟩
theorem ofL_ext {b : List Run} {l : List Int} (h1 : asc b) (h2 : pos b) (h : ∀ v, cnt b v = num l v) : b = ofL l := by
  obtain ⟨g1, g2, g3, _⟩ := ofL_facts l
  exact ext h1 g1 h2 g2 fun v => by rw [h, g3]
/-! ### the ends -/
theorem num_pos {l : List Int} {v : Int} : 0 < num l v ↔ v ∈ l := by
  simp only [num]
  rw [← List.count_pos_iff]
  omega
theorem ofL_mem {l : List Int} {r : Run} (h : r ∈ ofL l) : r.1 ∈ l := by
  obtain ⟨h1, h2, h3, _⟩ := ofL_facts l
  have := cnt_pos h2 h
  have := h2 r h
  exact num_pos.mp (by rw [← h3]; omega)
end Go.Bag
/-
  BAGS, PLAIN, the sixth part: the ends of a bag of values. My own work.
-/
namespace Go.Bag
open Go.Pl
end Go.Bag
/-
  BAGS, PLAIN, the seventh part: bags of values joined, taken away, summed. My own work.
-/
namespace Go.Bag
open Go.Pl
theorem join_ok {a b : List Run} (ga : good a = true) (gb : good b = true) (h : sum a + sum b ≤ cap) : ∃ o, join a b = (o, true) ∧ good o = true ∧ sum o = sum a + sum b ∧ ∀ v, cnt o v = cnt a v + cnt b v := by
  obtain ⟨a1, a2, a3⟩ := good_iff.mp ga
  obtain ⟨b1, b2, b3⟩ := good_iff.mp gb
  have h0 : cap = 1099511627776 := rfl
  obtain ⟨m1, m2, m3, m4⟩ := merge_facts _ [] a b rfl (by simp [asc]) a1 b1 (fun q hq => by simp at hq) a2 b2 (fun r _ q hq => by simp at hq) (fun r _ q hq => by simp at hq)
  have m5 : sum (merge [] a b) = sum a + sum b := by rw [m4]; simp [sum]
  refine ⟨merge [] a b, ?_, good_iff.mpr ⟨m1, m2, by omega⟩, m5, fun v => by rw [m3]; simp [cnt]⟩
  unfold join
  rw [if_pos ⟨ga, gb, by omega⟩]
/-! ### sums -/
theorem wsum_append : ∀ (l k : List Run), wsum (l ++ k) = wsum l + wsum k
  | [], k => by simp [wsum]
  | r :: l, k => by simp only [List.cons_append, wsum, wsum_append l k]; omega
theorem wsum_moreL (l : List Run) (v n : Int) : wsum (moreL l v n) = wsum l + v * n := by
  rcases snoc_cases l with rfl | ⟨k, r, rfl⟩
  · simp [moreL_nil, wsum]
  · by_cases hv : r.1 = v
    · subst hv; rw [moreL_eq, wsum_append, wsum_append]; simp only [wsum, Int.mul_add]; omega
    · rw [moreL_ne _ _ _ _ hv, wsum_append]; simp only [wsum]; omega
def sumI : List Int → Int
  | [] => 0
  | a :: l => a + sumI l
theorem wsum_ofS : ∀ (l : List Int) (out : List Run), wsum (ofS out l) = wsum out + sumI l
  | [], out => by simp [ofS, sumI]
  | x :: l, out => by rw [ofS, wsum_ofS l, wsum_moreL]; simp only [sumI]; omega
theorem sumI_perm {a b : List Int} (h : a.Perm b) : sumI a = sumI b := by
  induction h with
  | nil => rfl
  | cons x _ ih => simp only [sumI, ih]
  | swap x y l => simp only [sumI]; omega
  | trans _ _ h1 h2 => rw [h1, h2]
theorem wsum_ofL (l : List Int) : wsum (ofL l) = sumI l := by
  rw [ofL, wsum_ofS, sumI_perm (srt_perm l)]; simp [wsum]
theorem ranged_ofL {l : List Int} (h : ∀ a ∈ l, -9223372036854775808 ≤ a ∧ a ≤ 9223372036854775807) (hl : l.length ≤ 1000000) : ranged (ofL l) := by
  obtain ⟨h1, h2, h3, h4, _⟩ := ofL_facts l
  intro r hr
  have := le_sum h2 r hr
  refine ⟨h r.1 (ofL_mem hr), by omega, by omega⟩
end Go.Bag
/-
  BAGS, PLAIN, the eighth part: the document's laying of values comes to the same bags. My own work.
-/
namespace Go.Bag
open Go.Pl
theorem asc_cnt : ∀ {l : List Run} {r : Run}, asc l → r ∈ l → cnt l r.1 = r.2
  | [], r, _, hr => by simp at hr
  | q :: l, r, h, hr => by
    obtain ⟨h1, h2⟩ := asc_cons.mp h
    rcases List.mem_cons.mp hr with rfl | hr
    · have : cnt l r.1 = 0 := cnt_none fun p hp => by have := h1 p hp; omega
      simp [cnt, this]
    · have h3 := h1 r hr
      simp only [cnt, if_neg (show ¬ q.1 = r.1 by omega), asc_cnt h2 hr]; omega
theorem mem_keepR {x q : Run} (h : q ∈ keepR x) : q = x ∧ x.2 ≠ 0 := by
  unfold keepR at h
  split at h
  · simp at h; exact ⟨h, by assumption⟩
  · simp at h
theorem cnt_keepR (x : Run) (u : Int) : cnt (keepR x) u = if x.1 = u then x.2 else 0 := by
  unfold keepR
  by_cases h : x.2 = 0
  · simp [h, cnt]
  · simp [h, cnt]
theorem sum_keepR (x : Run) : sum (keepR x) = x.2 := by
  unfold keepR
  by_cases h : x.2 = 0
  · simp [h, sum]
  · simp [h, sum]
theorem len_keepR (x : Run) : (keepR x).length ≤ 1 := by unfold keepR; split <;> simp
theorem asc_keepR {x : Run} {l : List Run} (h : asc l) (hx : ∀ q ∈ l, x.1 < q.1) : asc (keepR x ++ l) := by
  unfold keepR
  split
  · exact asc_cons.mpr ⟨hx, h⟩
  · exact h
theorem layB_true (v n : Int) : ∀ (l : List Run), (layB v n true l).2 = true ∧ (∀ u, cnt (layB v n true l).1 u = cnt l u) ∧ sum (layB v n true l).1 = sum l ∧ (layB v n true l).1.length ≤ l.length ∧
    (∀ q ∈ (layB v n true l).1, q ∈ l ∧ q.2 ≠ 0) ∧ (asc l → asc (layB v n true l).1)
  | [] => by simp [layB]
  | x :: l => by
    obtain ⟨h1, h2, h3, h4, h5, h6⟩ := layB_true v n l
    have e : layB v n true (x :: l) = (keepR x ++ (layB v n true l).1, (layB v n true l).2) := by simp [layB]
    rw [e]
    refine ⟨h1, fun u => ?_, ?_, ?_, fun q hq => ?_, fun h => ?_⟩
    · rw [cnt_append, cnt_keepR, h2]; rfl
    · rw [sum_append, sum_keepR, h3]; rfl
    · have := len_keepR x; simp only [List.length_append, List.length_cons]; omega
    · rcases List.mem_append.mp hq with hq | hq
      · obtain ⟨rfl, hz⟩ := mem_keepR hq; exact ⟨by simp, hz⟩
      · exact ⟨List.mem_cons_of_mem _ (h5 q hq).1, (h5 q hq).2⟩
    · obtain ⟨g1, g2⟩ := asc_cons.mp h
      exact asc_keepR (h6 g2) fun q hq => g1 q (h5 q hq).1
theorem layB_false (v n : Int) : ∀ (l : List Run), (∀ u, cnt (layB v n false l).1 u + (if (layB v n false l).2 then 0 else if v = u then n else 0) = cnt l u + if v = u then n else 0) ∧
    sum (layB v n false l).1 + (if (layB v n false l).2 then 0 else n) = sum l + n ∧ (layB v n false l).1.length + (if (layB v n false l).2 then 0 else 1) ≤ l.length + 1 ∧
    (n ≠ 0 → ∀ q ∈ (layB v n false l).1, q.2 ≠ 0) ∧ (∀ q ∈ (layB v n false l).1, q.1 = v ∨ ∃ r ∈ l, q.1 = r.1) ∧
    ((layB v n false l).2 = false → (∀ r ∈ l, r.1 < v) ∧ ∀ q ∈ (layB v n false l).1, q ∈ l) ∧ (asc l → asc (layB v n false l).1)
  | [] => by simp [layB, cnt, sum, asc]
  | x :: l => by
    obtain ⟨t1, t2, t3, t4, t5, t6⟩ := layB_true v n l
    obtain ⟨f1, f2, f3, f4, f5, f6, f7⟩ := layB_false v n l
    by_cases hv : v ≤ x.1
    · by_cases hlt : v < x.1
      · have e : layB v n false (x :: l) = ([(v, n)] ++ (keepR x ++ (layB v n true l).1), (layB v n true l).2) := by simp [layB, hv, hlt]
        rw [e, t1]
        refine ⟨fun u => ?_, ?_, ?_, fun hn q hq => ?_, fun q hq => ?_, (fun h => by cases h), fun h => ?_⟩
        · rw [cnt_append, cnt_append, cnt_keepR, t2]; simp only [cnt, if_true]; omega
        · rw [sum_append, sum_append, sum_keepR, t3]; simp only [sum, if_true]; omega
        · have := len_keepR x; simp only [List.length_append, List.length_cons, List.length_nil, if_true]; omega
        · rcases List.mem_append.mp hq with hq | hq
          · simp at hq; subst hq; exact hn
          · rcases List.mem_append.mp hq with hq | hq
            · obtain ⟨rfl, hz⟩ := mem_keepR hq; exact hz
            · exact (t5 q hq).2
        · rcases List.mem_append.mp hq with hq | hq
          · simp at hq; subst hq; exact .inl rfl
          · rcases List.mem_append.mp hq with hq | hq
            · obtain ⟨rfl, hz⟩ := mem_keepR hq; exact .inr ⟨q, by simp, rfl⟩
            · exact .inr ⟨q, List.mem_cons_of_mem _ (t5 q hq).1, rfl⟩
        · obtain ⟨g1, g2⟩ := asc_cons.mp h
          refine asc_cons.mpr ⟨fun q hq => ?_, asc_keepR (t6 g2) fun q hq => g1 q (t5 q hq).1⟩
          have hq : q ∈ keepR x ++ (layB v n true l).1 := hq
          rcases List.mem_append.mp hq with hq | hq
          · obtain ⟨rfl, hz⟩ := mem_keepR hq; exact hlt
          · have := g1 q (t5 q hq).1; show v < q.1; omega
      · have hx : x.1 = v := by omega
        have e : layB v n false (x :: l) = (keepR (x.1, x.2 + n) ++ (layB v n true l).1, (layB v n true l).2) := by simp [layB, hv, hlt]
        rw [e, t1]
        refine ⟨fun u => ?_, ?_, ?_, fun hn q hq => ?_, fun q hq => ?_, (fun h => by cases h), fun h => ?_⟩
        · rw [cnt_append, cnt_keepR, t2]; simp only [cnt, if_true, hx]; split <;> omega
        · rw [sum_append, sum_keepR, t3]; simp only [sum, if_true]; omega
        · have := len_keepR (x.1, x.2 + n); simp only [List.length_append, List.length_cons, if_true]; omega
        · rcases List.mem_append.mp hq with hq | hq
          · obtain ⟨rfl, hz⟩ := mem_keepR hq; exact hz
          · exact (t5 q hq).2
        · rcases List.mem_append.mp hq with hq | hq
          · obtain ⟨rfl, hz⟩ := mem_keepR hq; exact .inl hx
          · exact .inr ⟨q, List.mem_cons_of_mem _ (t5 q hq).1, rfl⟩
        · obtain ⟨g1, g2⟩ := asc_cons.mp h
          exact asc_keepR (t6 g2) fun q hq => g1 q (t5 q hq).1
    · have e : layB v n false (x :: l) = (keepR x ++ (layB v n false l).1, (layB v n false l).2) := by simp [layB, hv]
      rw [e]
      refine ⟨fun u => ?_, ?_, ?_, fun hn q hq => ?_, fun q hq => ?_, fun h => ⟨fun r hr => ?_, fun q hq => ?_⟩, fun h => ?_⟩
      · have := f1 u
        rw [cnt_append, cnt_keepR]; simp only [cnt]; omega
      · rw [sum_append, sum_keepR]; simp only [sum]; omega
      · have := len_keepR x; simp only [List.length_append, List.length_cons]; omega
      · rcases List.mem_append.mp hq with hq | hq
        · obtain ⟨rfl, hz⟩ := mem_keepR hq; exact hz
        · exact f4 hn q hq
      · rcases List.mem_append.mp hq with hq | hq
        · obtain ⟨rfl, hz⟩ := mem_keepR hq; exact .inr ⟨q, by simp, rfl⟩
        · rcases f5 q hq with h | ⟨r, hr, h⟩
          · exact .inl h
          · exact .inr ⟨r, List.mem_cons_of_mem _ hr, h⟩
      · rcases List.mem_cons.mp hr with rfl | hr
        · omega
        · exact (f6 h).1 r hr
      · rcases List.mem_append.mp hq with hq | hq
        · obtain ⟨rfl, hz⟩ := mem_keepR hq; simp
        · exact List.mem_cons_of_mem _ ((f6 h).2 q hq)
      · obtain ⟨g1, g2⟩ := asc_cons.mp h
        refine asc_keepR (f7 g2) fun q hq => ?_
        rcases f5 q hq with h | ⟨r, hr, h⟩
        · omega
        · have := g1 r hr; omega
theorem lay_facts (l : List Run) (v n : Int) : (∀ u, cnt (lay l v n) u = cnt l u + if v = u then n else 0) ∧ sum (lay l v n) = sum l + n ∧ (lay l v n).length ≤ l.length + 1 ∧ (n ≠ 0 → ∀ q ∈ lay l v n, q.2 ≠ 0) ∧ (asc l → asc (lay l v n)) := by
  obtain ⟨f1, f2, f3, f4, f5, f6, f7⟩ := layB_false v n l
  unfold lay
  cases hd : (layB v n false l).2 with
  | true =>
    simp only [hd, if_true] at *
    exact ⟨fun u => by have := f1 u; omega, by omega, by omega, f4, f7⟩
  | false =>
    simp only [hd, Bool.false_eq_true, if_false] at *
    refine ⟨fun u => ?_, ?_, ?_, fun hn q hq => ?_, fun h => ?_⟩
    · have := f1 u
      rw [cnt_append]; simp only [cnt]; omega
    · rw [sum_append]; simp only [sum]; omega
    · simp only [List.length_append, List.length_cons, List.length_nil]; omega
    · rcases List.mem_append.mp hq with hq | hq
      · exact f4 hn q hq
      · simp at hq; subst hq; exact hn
    · refine asc_snoc.mpr ⟨f7 h, fun q hq => ?_⟩
      exact (f6 trivial).1 q ((f6 trivial).2 q hq)
theorem pos_of {l : List Run} (ha : asc l) (hz : ∀ q ∈ l, q.2 ≠ 0) (hc : ∀ u, 0 ≤ cnt l u) : pos l := by
  intro q hq
  have h1 := asc_cnt ha hq
  have h2 := hc q.1
  have h3 := hz q hq
  omega
end Go.Bag
/-
  BAGS, PLAIN, the ninth part: the document's bags of values, joined, taken away. My own work.
-/
namespace Go.Bag
open Go.Pl
theorem lay_pos {l : List Run} {v n : Int} (ha : asc l) (hp : pos l) (hn : n ≠ 0) (h : 0 ≤ cnt l v + n) : asc (lay l v n) ∧ pos (lay l v n) := by
  obtain ⟨h1, h2, h3, h4, h5⟩ := lay_facts l v n
  refine ⟨h5 ha, pos_of (h5 ha) (h4 hn) fun u => ?_⟩
  rw [h1]
  have := cnt_nonneg u hp
  split
  · rename_i e; subst e; exact h
  · omega
def rofS : List Run → List Int → List Run
  | out, [] => out
  | out, v :: l => rofS (lay out v 1) l
theorem rofS_facts : ∀ (l : List Int) (out : List Run), asc out → pos out → asc (rofS out l) ∧ pos (rofS out l) ∧ ∀ v, cnt (rofS out l) v = cnt out v + num l v
  | [], out, ha, hp => ⟨ha, hp, fun v => by simp [rofS, num_nil]⟩
  | x :: l, out, ha, hp => by
    have h1 := cnt_nonneg x hp
    obtain ⟨h2, h3⟩ := lay_pos (v := x) (n := 1) ha hp (by decide) (by omega)
    obtain ⟨g1, g2, g3⟩ := rofS_facts l (lay out x 1) h2 h3
    refine ⟨g1, g2, fun v => ?_⟩
    rw [rofS, g3, (lay_facts out x 1).1, num_cons]; omega
theorem rofS_ofL (l : List Int) : rofS [] l = ofL l := by
  obtain ⟨g1, g2, g3⟩ := rofS_facts l [] (by simp [asc]) (fun q hq => by simp at hq)
  exact ofL_ext g1 g2 fun v => by rw [g3]; simp [cnt]
end Go.Bag
/-
  CELLS, PLAIN: what is known of some rows. My own work.
-/
namespace Go.Bag
open Go.Pl
structure Cell where
  n : Int
  s0 : Int
  s1 : Int
  b0 : List Run
  b1 : List Run
  deriving DecidableEq
def zeroC : Cell := ⟨0, 0, 0, [], []⟩
def encC (c : Cell) : List CV := [.int .i64 c.n, .int .i64 c.s0, .int .i64 c.s1, encL c.b0, encL c.b1]
def encCell (c : Cell) : CV := .agg (encC c)
def in64 (a : Int) : Prop := -9223372036854775808 ≤ a ∧ a ≤ 9223372036854775807
instance (a : Int) : Decidable (in64 a) := by unfold in64; infer_instance
def inC (k : Nat) (c : Cell) : Prop := in64 c.n ∧ in64 c.s0 ∧ in64 c.s1 ∧ ranged c.b0 ∧ ranged c.b1 ∧ c.b0.length ≤ k ∧ c.b1.length ≤ k
def gM (b : List Run) (s n : Int) : Bool := decide (good b = true ∧ wsum b = s ∧ sum b = n)
def goodC (m : Int) (c : Cell) : Bool := decide ((1 ≤ m ∧ m ≤ 2) ∧ (1 ≤ c.n ∧ c.n ≤ 1099511627776) ∧ gM c.b0 c.s0 c.n = true ∧ (if m = 2 then gM c.b1 c.s1 c.n = true else c.s1 = 0 ∧ c.b1 = []))
def joinC (m : Int) (a b : Cell) : Cell × Bool :=
  if goodC m a = true ∧ goodC m b = true ∧ a.n + b.n ≤ 1099511627776 ∧ in64 (a.s0 + b.s0) ∧ (m = 2 → in64 (a.s1 + b.s1)) then
    (⟨a.n + b.n, a.s0 + b.s0, if m = 2 then a.s1 + b.s1 else 0, (join a.b0 b.b0).1, if m = 2 then (join a.b1 b.b1).1 else []⟩, true) else (zeroC, false)
structure LineS where
  p0 : Int
  p1 : Int
  p2 : Int
  p3 : Int
  n : Int
  s0 : Int
  s1 : Int
  lo0 : Int
  lo1 : Int
  hi0 : Int
  hi1 : Int
  deriving DecidableEq
def encLn (l : LineS) : List CV := [.int .u8 l.p0, .int .u8 l.p1, .int .u8 l.p2, .int .u8 l.p3, .int .i64 l.n, .int .i64 l.s0, .int .i64 l.s1, .int .i64 l.lo0, .int .i64 l.lo1, .int .i64 l.hi0, .int .i64 l.hi1]
def encLine (l : LineS) : CV := .agg (encLn l)
def zeroLn : LineS := ⟨0, 0, 0, 0, 0, 0, 0, 0, 0, 0, 0⟩
structure Place where
  p0 : Int
  p1 : Int
  p2 : Int
  p3 : Int
  deriving DecidableEq
def encP (p : Place) : List CV := [.int .u8 p.p0, .int .u8 p.p1, .int .u8 p.p2, .int .u8 p.p3]
def lo_ (b : List Run) : Int := match b.head? with | some r => r.1 | none => 0
def hi_ (b : List Run) : Int := match b.getLast? with | some r => r.1 | none => 0
def lineC (m : Int) (p : Place) (c : Cell) : LineS :=
  if goodC m c then ⟨p.p0, p.p1, p.p2, p.p3, c.n, c.s0, if m = 2 then c.s1 else 0, lo_ c.b0, if m = 2 then lo_ c.b1 else 0, hi_ c.b0, if m = 2 then hi_ c.b1 else 0⟩ else zeroLn
structure RowS where
  p : Place
  m0 : Int
  m1 : Int
  deriving DecidableEq
def encRow (r : RowS) : List CV := encP r.p ++ [.int .i64 r.m0, .int .i64 r.m1]
def encRows (l : List RowS) : CV := .sl (l.map encRow)
def ofC (m : Int) (l : List RowS) : Cell × Bool :=
  if (1 ≤ m ∧ m ≤ 2) ∧ l ≠ [] ∧ in64 (sumI (l.map (·.m0))) ∧ (m = 2 → in64 (sumI (l.map (·.m1)))) then
    (⟨l.length, sumI (l.map (·.m0)), if m = 2 then sumI (l.map (·.m1)) else 0, ofL (l.map (·.m0)), if m = 2 then ofL (l.map (·.m1)) else []⟩, true) else (zeroC, false)
theorem goodC_iff {m : Int} {c : Cell} : goodC m c = true ↔ (1 ≤ m ∧ m ≤ 2) ∧ (1 ≤ c.n ∧ c.n ≤ 1099511627776) ∧ gM c.b0 c.s0 c.n = true ∧ (if m = 2 then gM c.b1 c.s1 c.n = true else c.s1 = 0 ∧ c.b1 = []) := by
  simp only [goodC, decide_eq_true_eq]
theorem gM_iff {b : List Run} {s n : Int} : gM b s n = true ↔ good b = true ∧ wsum b = s ∧ sum b = n := by simp only [gM, decide_eq_true_eq]
theorem wsum_merge : ∀ (m : Nat) (out a b : List Run), a.length + b.length = m → wsum (merge out a b) = wsum out + wsum a + wsum b := by
  intro m
  induction m with
  | zero =>
    intro out a b hm
    obtain rfl : a = [] := List.eq_nil_of_length_eq_zero (by omega)
    obtain rfl : b = [] := List.eq_nil_of_length_eq_zero (by omega)
    simp [merge, wsum]
  | succ m ih =>
    intro out a b hm
    match a, b, hm with
    | [], s :: b, hm => rw [show merge out [] (s :: b) = merge (moreL out s.1 s.2) [] b by simp only [merge], ih _ [] b (by simpa using hm), wsum_moreL]; simp only [wsum]; omega
    | r :: a, [], hm => rw [show merge out (r :: a) [] = merge (moreL out r.1 r.2) a [] by simp only [merge], ih _ a [] (by simpa using hm), wsum_moreL]; simp only [wsum]; omega
    | r :: a, s :: b, hm =>
      rw [merge]
      split
      · rw [ih _ (r :: a) b (by simp at hm ⊢; omega), wsum_moreL]; simp only [wsum]; omega
      · rw [ih _ a (s :: b) (by simp at hm ⊢; omega), wsum_moreL]; simp only [wsum]; omega
theorem join_sum {a b : List Run} (ga : good a = true) (gb : good b = true) (h : sum a + sum b ≤ 1099511627776) : good (join a b).1 = true ∧ sum (join a b).1 = sum a + sum b ∧ wsum (join a b).1 = wsum a + wsum b ∧ (join a b).2 = true := by
  obtain ⟨o, h1, h2, h3, h4⟩ := join_ok ga gb h
  have e : join a b = (merge [] a b, true) := by unfold join; rw [if_pos ⟨ga, gb, by omega⟩]
  rw [h1] at e
  obtain rfl : o = merge [] a b := (Prod.mk.inj e).1
  rw [h1]
  exact ⟨h2, h3, by rw [wsum_merge _ [] a b rfl]; simp [wsum], rfl⟩
end Go.Bag
/-
  DELTAS, PLAIN: what comes, what goes. My own work.
-/
namespace Go.Bag
open Go.Pl
/-! ### All runs together, weighed -/
/-! ### What two have in common, what one has more -/
def some_ (v n : Int) : List Run := if 0 < n then [(v, n)] else []
def cut (b : List Run) : List Run → List Run
  | [] => []
  | r :: l => some_ r.1 (r.2 - min r.2 (has b r.1)) ++ cut b l
/-! ### A delta -/
structure Delta where
  n : Int
  s0 : Int
  s1 : Int
  i0 : List Run
  i1 : List Run
  o0 : List Run
  o1 : List Run
  deriving DecidableEq
def joks (m : Int) (a b : Delta) : Prop := (join a.i0 b.i0).2 = true ∧ (join a.o0 b.o0).2 = true ∧ (m = 2 → (join a.i1 b.i1).2 = true ∧ (join a.o1 b.o1).2 = true)
instance (m : Int) (a b : Delta) : Decidable (joks m a b) := by unfold joks; infer_instance
def swap (b o i : List Run) : List Run × Bool := if (minus b o).2 = true then join (minus b o).1 i else ([], false)
end Go.Bag
/-
  DELTAS, PLAIN, the second part: joined in any order, turned round, undone. My own work.
-/
namespace Go.Bag
open Go.Pl
/-! ### A cell, and back -/
end Go.Bag
/-
  DELTAS, PLAIN, the third part: how long, of what numbers. My own work.
-/
namespace Go.Bag
open Go.Pl
/-! ### what the program comes to, told the document's way -/
end Go.Bag
/-
  A SPOILT DELTA, PLAIN: it may not be; it is joined to nothing, has no other way round, turns no cell. My own work.
-/
namespace Go.Bag
open Go.Pl
theorem wrap64_eq (n : Int) : IntKind.i64.wrap n = (n + 9223372036854775808) % 18446744073709551616 - 9223372036854775808 := by
  simp [IntKind.wrap, IntKind.bits, IntKind.signed]
  omega
theorem wrap64_in64 (n : Int) : in64 (IntKind.i64.wrap n) := by rw [wrap64_eq]; unfold in64; omega
theorem ofInt_wrap (n : Int) : BitVec.ofInt 64 (IntKind.i64.wrap n) = BitVec.ofInt 64 n := by
  apply BitVec.eq_of_toNat_eq
  simp only [BitVec.toNat_ofInt]
  rw [wrap64_eq]
  congr 1
  omega
theorem ofInt_toNat (x : BitVec 64) : BitVec.ofInt 64 (x.toNat : Int) = x := by
  apply BitVec.eq_of_toNat_eq
  have := x.isLt
  simp only [BitVec.toNat_ofInt]
  omega
def xorI (a b : Int) : Int := IntKind.i64.wrap ((BitVec.ofInt 64 a ^^^ BitVec.ofInt 64 (IntKind.i64.wrap ((BitVec.ofInt 64 b ||| BitVec.ofInt 64 1).toNat : Int))).toNat : Int)
theorem xor_odd (a b : Int) : xorI a b ≠ a := by
  intro h
  unfold xorI at h
  have h := congrArg (BitVec.ofInt 64) h
  rw [ofInt_wrap, ofInt_wrap, ofInt_toNat, ofInt_toNat] at h
  have h := congrArg (fun x : BitVec 64 => x.getLsbD 0) h
  have h1 : (BitVec.ofInt 64 1).getLsbD 0 = true := by decide
  simp only [BitVec.getLsbD_xor, BitVec.getLsbD_or, h1, Bool.or_true] at h
  cases hb : (BitVec.ofInt 64 a).getLsbD 0 <;> rw [hb] at h <;> cases h
end Go.Bag
/-
  A SPOILT CELL, PLAIN. My own work.
-/
namespace Go.Bag
open Go.Pl
def orJ (b : Int) : Int := IntKind.i64.wrap ((BitVec.ofInt 64 b ||| BitVec.ofInt 64 1).toNat : Int)
theorem orJ_ne (b : Int) : orJ b ≠ 0 := by
  intro h
  unfold orJ at h
  have h := congrArg (BitVec.ofInt 64) h
  rw [ofInt_wrap, ofInt_toNat] at h
  have h := congrArg (fun x : BitVec 64 => x.getLsbD 0) h
  have h1 : (BitVec.ofInt 64 1).getLsbD 0 = true := by decide
  have h2 : (BitVec.ofInt 64 0).getLsbD 0 = false := by decide
  simp only [BitVec.getLsbD_or, h1, h2, Bool.or_true] at h
  cases h
def more1 : List Run → List Run
  | [] => []
  | r :: l => (r.1, r.2 + 1) :: l
def last1 (l : List Run) : List Run := match l.getLast? with
  | some r => if l.dropLast = [] then [(r.1, 0)] else r :: l.dropLast
  | none => []
def spoilC (how : Nat) (x z : Int) (two : Bool) (c : Cell) : Cell :=
  match how with
  | 0 => { c with n := c.n + 1 }
  | 1 => { c with s0 := x }
  | 2 => { c with b0 := more1 c.b0 }
  | 3 => { c with b0 := last1 c.b0 }
  | _ => { c with b1 := [], s1 := if two then c.s1 else z }
theorem ne_nil_of {c : Cell} {m : Int} (g : goodC m c = true) : c.b0 ≠ [] := by
  obtain ⟨_, g2, g3, _⟩ := goodC_iff.mp g
  obtain ⟨_, _, q⟩ := gM_iff.mp g3
  intro h
  rw [h] at q
  simp only [sum] at q
  omega
theorem spoilC_bad {how : Nat} {x z : Int} {two : Bool} {c : Cell} {m : Int} (hm : m = if two then 2 else 1) (g : goodC m c = true) (hx : x ≠ c.s0) (hz : z ≠ 0) : goodC m (spoilC how x z two c) = false := by
  obtain ⟨g1, g2, g3, g4⟩ := goodC_iff.mp g
  obtain ⟨q1, q2, q3⟩ := gM_iff.mp g3
  refine Bool.eq_false_iff.mpr fun hg => ?_
  obtain ⟨k1, k2, k3, k4⟩ := goodC_iff.mp hg
  obtain ⟨p1, p2, p3⟩ := gM_iff.mp k3
  have hne := ne_nil_of g
  unfold spoilC at *
  split at p1
  · simp only at p3; omega
  · simp only at p2; omega
  · simp only at p3
    cases hb : c.b0 with
    | nil => exact hne hb
    | cons r l => rw [hb] at p3 q3; simp only [more1, sum] at p3 q3; omega
  · simp only at p1
    rcases snoc_cases c.b0 with hb | ⟨k, r, hb⟩
    · exact hne hb
    · rw [hb] at p1 q1
      have e : last1 (k ++ [r]) = if k = [] then [(r.1, 0)] else r :: k := by
        unfold last1; simp
      rw [e] at p1
      split at p1
      · have := (good_iff.mp p1).2.1 (r.1, 0) (by simp)
        simp at this
      · rename_i hk
        obtain ⟨y, k', rfl⟩ : ∃ y k', k = y :: k' := by
          cases k with
          | nil => exact absurd rfl hk
          | cons y k' => exact ⟨y, k', rfl⟩
        have a1 := (asc_cons.mp (good_iff.mp p1).1).1 y (by simp)
        have a2 := (asc_snoc.mp (good_iff.mp q1).1).2 y (by simp)
        omega
  · simp only at k4
    cases two with
    | true =>
      simp only [if_true] at hm
      rw [if_pos hm] at k4
      have := (gM_iff.mp k4).2.2
      simp only [sum] at this
      omega
    | false =>
      simp only [Bool.false_eq_true, if_false] at hm
      rw [if_neg (by omega)] at k4
      simp only [Bool.false_eq_true, if_false] at k4
      exact hz k4.1
theorem spoilC_in {k : Nat} {how : Nat} {x z : Int} {two : Bool} {c : Cell} {m : Int} (g : goodC m c = true) (h : inC k c) (hx : in64 x) (hz : in64 z) : inC k (spoilC how x z two c) := by
  obtain ⟨h1, h2, h3, h4, h5, h6, h7⟩ := h
  obtain ⟨g1, g2, g3, g4⟩ := goodC_iff.mp g
  obtain ⟨q1, q2, q3⟩ := gM_iff.mp g3
  have gp := (good_iff.mp q1).2.1
  have hs := fun r hr => le_sum gp r hr
  unfold spoilC
  split
  · exact ⟨by show in64 (c.n + 1); unfold in64; omega, h2, h3, h4, h5, h6, h7⟩
  · exact ⟨h1, hx, h3, h4, h5, h6, h7⟩
  · refine ⟨h1, h2, h3, fun q hq => ?_, h5, ?_, h7⟩
    · simp only at hq
      cases hb : c.b0 with
      | nil => rw [hb] at hq; simp [more1] at hq
      | cons r l =>
        rw [hb] at hq
        simp only [more1] at hq
        rcases List.mem_cons.mp hq with rfl | hq
        · have a := h4 r (by rw [hb]; simp)
          have b := hs r (by rw [hb]; simp)
          exact ⟨a.1, by show -9223372036854775808 ≤ r.2 + 1 ∧ r.2 + 1 ≤ 9223372036854775807; omega⟩
        · exact h4 q (by rw [hb]; simp [hq])
    · show (more1 c.b0).length ≤ k
      cases hb : c.b0 with
      | nil => simp [more1]
      | cons r l => rw [hb] at h6; simpa [more1] using h6
  · rcases snoc_cases c.b0 with hb | ⟨l, r, hb⟩
    · exact absurd hb (ne_nil_of g)
    · have e : last1 c.b0 = if l = [] then [(r.1, 0)] else r :: l := by rw [hb]; unfold last1; simp
      refine ⟨h1, h2, h3, fun q hq => ?_, h5, ?_, h7⟩
      · simp only [e] at hq
        split at hq
        · obtain rfl := List.mem_singleton.mp hq
          exact ⟨(h4 r (by rw [hb]; simp)).1, by simp⟩
        · rcases List.mem_cons.mp hq with rfl | hq
          · exact h4 q (by rw [hb]; simp)
          · exact h4 q (by rw [hb]; simp [hq])
      · show (last1 c.b0).length ≤ k
        rw [hb] at h6
        rw [e]
        simp at h6
        split <;> simp <;> omega
  · refine ⟨h1, h2, ?_, h4, fun q hq => by simp at hq, h6, by simp⟩
    cases two with
    | true => exact h3
    | false => exact hz
theorem spoilC_facts {how : Nat} {x z : Int} {two : Bool} {c : Cell} {m : Int} (hm : m = if two then 2 else 1) (g : goodC m c = true) (hx : x ≠ c.s0) (hz : z ≠ 0) :
    goodC m (spoilC how x z two c) = false ∧ decide (c = spoilC how x z two c) = false ∧ (joinC m c (spoilC how x z two c)).2 = false ∧ (joinC m (spoilC how x z two c) c).2 = false ∧ ∀ p, lineC m p (spoilC how x z two c) = zeroLn := by
  have hb := spoilC_bad (how := how) hm g hx hz
  generalize spoilC how x z two c = y at *
  refine ⟨hb, decide_eq_false (fun e => by rw [← e, g] at hb; cases hb), ?_, ?_, fun p => ?_⟩
  · unfold joinC; rw [if_neg]; rintro ⟨_, h, _⟩; rw [hb] at h; cases h
  · unfold joinC; rw [if_neg]; rintro ⟨h, _⟩; rw [hb] at h; cases h
  · unfold lineC; rw [hb]; simp
end Go.Bag
namespace Go.Proofs.Ytcmejdkjfekoeaa
open Go.Pl
set_option maxHeartbeats 4000000
def I64 (a : Int) : Prop := -9223372036854775808 ≤ a ∧ a ≤ 9223372036854775807
instance (a : Int) : Decidable (I64 a) := by unfold I64; infer_instance
def absI (a : Int) : Int := if a < 0 then -a else a
theorem C_Size (a : Int) (ha : I64 a) : PCallG Try.prog 119 [.c (.int .i64 a)] (.c (.int .u64 (absI a))) [] := by
  obtain ⟨h1, h2⟩ := ha
  refine pcallF Try.func119 c119 rfl ?_
  unfold p119 r119_0 r119_1 r119_2 r119_3
  by_cases h : a < 0
  · repeat' (first | refine w_seq ?_ | refine w_ops ?_ | refine st_nil ?_ | refine th_n ?_ | refine th_r ?_ | refine w_ret ?_ | refine w_true rfl ?_ | refine mv_c rfl ?_ | refine lss_t rfl rfl (by omega) ?_ | refine conv_u rfl ?_ | refine negu_ rfl ?_)
    refine fin_r rfl ?_
    have : -(a % 18446744073709551616) % 18446744073709551616 = -a := by omega
    simp [one_, absI, h, this]
  · repeat' (first | refine w_seq ?_ | refine w_ops ?_ | refine st_nil ?_ | refine th_n ?_ | refine w_skip ?_ | refine w_ret ?_ | refine w_false rfl ?_ | refine mv_c rfl ?_ | refine lss_f rfl rfl (by omega) ?_ | refine conv_in rfl (wrapu_in (by omega)) ?_)
    exact fin_r rfl (by simp [one_, absI, h])
theorem halves (x y : Int) (x0 x1 y0 y1 : Int) (hx : x = x1 * 4294967296 + x0) (hy : y = y1 * 4294967296 + y0) :
    x * y = (x1 * y1) * 18446744073709551616 + (x1 * y0) * 4294967296 + (x0 * y1) * 4294967296 + x0 * y0 := by
  subst hx hy
  simp only [Int.add_mul, Int.mul_add]
  have e1 : x1 * 4294967296 * (y1 * 4294967296) = (x1 * y1) * 18446744073709551616 := by
    rw [Int.mul_assoc, Int.mul_left_comm 4294967296 y1, ← Int.mul_assoc]; rfl
  have e2 : x1 * 4294967296 * y0 = (x1 * y0) * 4294967296 := by rw [Int.mul_assoc, Int.mul_comm 4294967296, ← Int.mul_assoc]
  have e3 : x0 * (y1 * 4294967296) = (x0 * y1) * 4294967296 := by rw [Int.mul_assoc]
  omega
theorem prod_le {a b m : Int} (ha : 0 ≤ a) (ha' : a ≤ m) (hb : 0 ≤ b) (hb' : b ≤ m) : 0 ≤ a * b ∧ a * b ≤ m * m :=
  ⟨Int.mul_nonneg ha hb, Int.mul_le_mul ha' hb' hb (by omega)⟩
def mul64 (x y : Int) : CV := .tup [.int .u64 (x * y / 18446744073709551616), .int .u64 (x * y % 18446744073709551616)]
theorem C_Mul64 (x y : Int) (hx : 0 ≤ x ∧ x ≤ 18446744073709551615) (hy : 0 ≤ y ∧ y ≤ 18446744073709551615) : PCallG Try.prog 118 [.c (.int .u64 x), .c (.int .u64 y)] (.c (mul64 x y)) [] := by
  refine pcallF Try.func118 c118 rfl ?_
  unfold p118 r118_0 r118_1 r118_2 r118_3 r118_4 r118_5 r118_6 r118_7 r118_8 r118_9 r118_10 r118_11
  have e := halves x y (x % 4294967296) (x / 4294967296) (y % 4294967296) (y / 4294967296) (by omega) (by omega)
  have b00 := prod_le (a := x % 4294967296) (b := y % 4294967296) (m := 4294967295) (by omega) (by omega) (by omega) (by omega)
  have b10 := prod_le (a := x / 4294967296) (b := y % 4294967296) (m := 4294967295) (by omega) (by omega) (by omega) (by omega)
  have b01 := prod_le (a := x % 4294967296) (b := y / 4294967296) (m := 4294967295) (by omega) (by omega) (by omega) (by omega)
  have b11 := prod_le (a := x / 4294967296) (b := y / 4294967296) (m := 4294967295) (by omega) (by omega) (by omega) (by omega)
  have hp32 : (2 : Int) ^ 32 = 4294967296 := by decide
  have step : ∀ {C : CallP} {l : List POp} {s : PS} {K : PS → Prop} {d : Nat} {u v : PO} {a : Int}, s.ev u = .c (.int .u64 a) → s.ev v = .c (.int .u64 4294967295) → (0 ≤ a ∧ a ≤ 18446744073709551615) → wL C l (s.put d (.c (.int .u64 (a % 4294967296)))) K → wL C (⟨some d, .bin .and u v, none⟩ :: l) s K :=
    fun h1 h2 h3 h4 => and_mask 32 (by decide) (by decide) h1 h2 h3 (by rw [hp32]; exact h4)
  repeat' (first | refine step rfl rfl (by omega) ?_ | refine w_seq ?_ | refine w_ops ?_ | refine st_nil ?_ | refine th_n ?_ | refine w_ret ?_ | refine mv_c rfl ?_ | refine addu_in rfl rfl (by omega) ?_ | refine mulu_in rfl rfl (by first | assumption | omega) ?_ | refine shr_n (n := 32) (m := 4294967296) rfl rfl (by decide) (by decide) ?_ | refine mulu_ rfl rfl ?_)
  refine fin_r rfl ?_
  simp only [one_, mul64]
  generalize x * y = p at *
  generalize (x / 4294967296) * (y / 4294967296) = q11 at *
  generalize (x / 4294967296) * (y % 4294967296) = q10 at *
  generalize (x % 4294967296) * (y / 4294967296) = q01 at *
  generalize (x % 4294967296) * (y % 4294967296) = q00 at *
  congr 3
  omega
section
variable {C : CallP} {l : List POp} {s : PS} {K : PS → Prop} {d : Nat} {xs : List PO} {a b c : Int}
theorem adc_ (hx : evcs s xs = some [.int .u64 a, .int .u64 b, .int .u64 c]) (hc : 0 ≤ a ∧ 0 ≤ b ∧ 0 ≤ c ∧ c ≤ 1)
    (h : wL C l (s.put d (.c (.tup [.int .u64 ((a + b + c) % 18446744073709551616), .int .u64 ((a + b + c) / 18446744073709551616)]))) K) : wL C (⟨some d, .xf .adc xs, none⟩ :: l) s K :=
  xf_ hx (by simp only [xfC, if_pos hc]; rfl) h
theorem sbc_ (hx : evcs s xs = some [.int .u64 a, .int .u64 b, .int .u64 c]) (hc : 0 ≤ a ∧ 0 ≤ b ∧ b < 18446744073709551616 ∧ 0 ≤ c ∧ c ≤ 1)
    (h : ∀ bo : Int, (a < b + c ∧ bo = 1) ∨ (b + c ≤ a ∧ bo = 0) → wL C l (s.put d (.c (.tup [.int .u64 ((a - b - c) % 18446744073709551616), .int .u64 bo]))) K) : wL C (⟨some d, .xf .sbc xs, none⟩ :: l) s K :=
  xf_ hx (by have hc' : 0 ≤ a ∧ 0 ≤ b ∧ b < m64 ∧ 0 ≤ c ∧ c ≤ 1 := hc
             simp only [xfC, if_pos hc']; rfl) (h _ (by split <;> omega))
end
def W128 (z : Int) : Prop := -170141183460469231731687303715884105728 ≤ z ∧ z ≤ 170141183460469231731687303715884105727
def cellsW (z : Int) : List CV := [.int .i64 (z / 18446744073709551616), .int .u64 (z % 18446744073709551616)]
def encW (z : Int) : CV := .agg (cellsW z)
theorem encW_eq {z hi lo : Int} (h1 : hi = z / 18446744073709551616) (h2 : lo = z % 18446744073709551616) : CV.agg (cellsW z) = one_ [.agg [.int .i64 hi, .int .u64 lo]] := by
  subst h1 h2; rfl
theorem abs_prod (a b : Int) : absI a * absI b = if (a < 0) ≠ (b < 0) then -(a * b) else a * b := by
  unfold absI
  by_cases h1 : a < 0 <;> by_cases h2 : b < 0 <;> simp [h1, h2, Int.neg_mul, Int.mul_neg]
theorem absI_in {a : Int} (h : I64 a) : 0 ≤ absI a ∧ absI a ≤ 9223372036854775808 := by
  obtain ⟨h1, h2⟩ := h
  unfold absI; split <;> omega
theorem wrap_i64 (n : Int) : IntKind.i64.wrap n = (n + 9223372036854775808) % 18446744073709551616 - 9223372036854775808 := by
  simp [IntKind.wrap, IntKind.bits, IntKind.signed]
  omega
theorem C_Plus (z a b : Int) (hz : W128 z) (ha : I64 a) (hb : I64 b) (hr : W128 (z + a * b)) : PCallG Try.prog 90 [.c (encW z), .c (.int .i64 a), .c (.int .i64 b)] (.c (encW (z + a * b))) [] := by
  obtain ⟨hz1, hz2⟩ := hz
  obtain ⟨hr1, hr2⟩ := hr
  have hA := absI_in ha
  have hB := absI_in hb
  have hp := prod_le hA.1 hA.2 hB.1 hB.2
  have hab := abs_prod a b
  have hS1 := C_Size a ha
  have hS2 := C_Size b hb
  have hM := C_Mul64 (absI a) (absI b) (by omega) (by omega)
  unfold mul64 at hM
  generalize absI a * absI b = p at hp hab hM
  generalize a * b = q at hr1 hr2 hab
  refine pcallF Try.func90 c90 rfl ?_
  unfold p90 r90_0 r90_1 r90_2 r90_3 r90_4 r90_5 r90_6 r90_7 r90_8
  unfold encW
  have hx : (decide (a < 0) == decide (b < 0)) = true → p = q := fun e => by
    have e : (a < 0) = (b < 0) := by simpa using e
    simpa [e] using hab
  have hy : (decide (a < 0) == decide (b < 0)) = false → p = -q := fun e => by
    have e : ¬ ((a < 0) ↔ (b < 0)) := by simpa using e
    by_cases h1 : a < 0 <;> by_cases h2 : b < 0 <;> simp_all
  repeat' (first | refine call1 rfl hS1 ?_ | refine call1 rfl hS2 ?_ | refine call2 rfl rfl hM ?_ | refine adc_ rfl (by omega) ?_ | refine sbc_ rfl (by omega) (fun bo hbo => ?_) | refine w_seq ?_ | refine w_ops ?_ | refine st_nil ?_ | refine th_n ?_ | refine w_skip ?_ | refine w_ret ?_ | refine w_cond rfl (fun hc => ?_) (fun hc => ?_) | refine mv_c rfl ?_ | refine lss_ rfl rfl ?_ | refine neqB_ rfl rfl ?_ | refine conv_u rfl ?_ | refine alloc_ (fun u => ?_) | refine box_ rfl rfl rfl (fun u => ?_) | refine build_ rfl rfl ?_ | refine load_ptr rfl (by decide) rfl (Nat.le_of_ble_eq_true rfl) rfl ?_ | refine store_ptr rfl rfl (by decide) rfl rfl (Nat.le_of_ble_eq_true rfl) rfl ?_ | refine fad_ptr rfl rfl rfl ?_ | refine ext_ rfl rfl ?_ | refine conv_ rfl ?_)
  · have hpq := hy (by simpa using hc)
    refine fin_r (rv_cell rfl rfl rfl rfl rv_nil) ?_
    refine encW_eq ?_ ?_
    · rw [wrap_i64]; omega
    · omega
  · have hpq := hx (by simpa using hc)
    refine fin_r (rv_cell rfl rfl rfl rfl rv_nil) ?_
    refine encW_eq ?_ ?_
    · rw [wrap_i64]; omega
    · omega
theorem C_Int (z : Int) (hz : W128 z) : PCallG Try.prog 89 [.c (encW z)] (.c (if I64 z then .tup [.int .i64 z, .bool true] else .tup [.int .i64 0, .bool false])) [] := by
  obtain ⟨hz1, hz2⟩ := hz
  refine pcallF Try.func89 c89 rfl ?_
  unfold p89 r89_0 r89_1 r89_2 r89_3 r89_4
  unfold encW
  have hw : IntKind.i64.wrap (z % 18446744073709551616) = z ∨ ¬ I64 z := by
    rw [wrap_i64]; unfold I64; omega
  by_cases h : z % 18446744073709551616 < 9223372036854775808
  all_goals
    repeat' (first | refine w_seq ?_ | refine w_ops ?_ | refine st_nil ?_ | refine th_n ?_ | refine th_r ?_ | refine w_skip ?_ | refine w_ret ?_ | refine w_condd rfl (fun hc => ?_) (fun hc => ?_) | refine mv_c rfl ?_ | refine ned_ rfl rfl ?_ | refine shr_n (n := 63) (m := 9223372036854775808) rfl rfl (by decide) (by decide) ?_ | refine conv_in rfl (wrap64_in (by omega)) ?_ | refine conv_s rfl (wrap64_hi (by omega)) ?_ | refine box_ rfl rfl rfl (fun u => ?_) | refine load_ptr rfl (by decide) rfl (Nat.le_of_ble_eq_true rfl) rfl ?_ | refine fad_ptr rfl rfl rfl ?_)
  all_goals
    refine fin_r rfl ?_
    simp only [one_]
    by_cases hI : I64 z
    · rw [if_pos hI]
      unfold I64 at hI
      first | (exfalso; omega) | (congr 3; omega)
    · first
        | (rw [if_neg hI]; done)
        | (exfalso; unfold I64 at hI; omega)
end Go.Proofs.Ytcmejdkjfekoeaa
namespace Go.Proofs.Ytcmejdkjfekoeaa
open Go.Pl
set_option maxHeartbeats 4000000
theorem C_rSize (a : Int) (ha : I64 a) : PCallG Try.prog 123 [.c (.int .i64 a)] (.c (.int .u64 (absI a))) [] := by
  obtain ⟨h1, h2⟩ := ha
  refine pcallF Try.func123 c123 rfl ?_
  unfold p123 r123_0 r123_1 r123_2 r123_3
  by_cases h : a < 0
  · repeat' (first | refine w_seq ?_ | refine w_ops ?_ | refine st_nil ?_ | refine th_n ?_ | refine th_r ?_ | refine w_ret ?_ | refine w_true rfl ?_ | refine mv_c rfl ?_ | refine lss_t rfl rfl (by omega) ?_ | refine addu_in rfl rfl (by omega) ?_ | refine conv_in rfl (wrapu_in (by omega)) ?_ | refine neg_in rfl (by omega) ?_ | refine add_in rfl rfl (by omega) ?_)
    refine fin_r rfl ?_
    simp only [one_, absI, if_pos h]
    congr 1
    omega
  · repeat' (first | refine w_seq ?_ | refine w_ops ?_ | refine st_nil ?_ | refine th_n ?_ | refine w_skip ?_ | refine w_ret ?_ | refine w_false rfl ?_ | refine mv_c rfl ?_ | refine lss_f rfl rfl (by omega) ?_ | refine conv_in rfl (wrapu_in (by omega)) ?_)
    exact fin_r rfl (by simp [one_, absI, h])
theorem or_low {C : CallP} {l : List POp} {s : PS} {K : PS → Prop} {d : Nat} {x y : PO} {a b : Int} (hx : s.ev x = .c (.int .u64 a)) (hy : s.ev y = .c (.int .u64 b)) (ha : 0 ≤ a ∧ a ≤ 18446744069414584320) (hm : a % 4294967296 = 0) (hb : 0 ≤ b ∧ b < 4294967296)
    (h : wL C l (s.put d (.c (.int .u64 (a + b)))) K) : wL C (⟨some d, .bin .or x y, none⟩ :: l) s K := by
  refine bin_ hx hy ?_ h
  obtain ⟨A, rfl⟩ := Int.eq_ofNat_of_zero_le ha.1
  obtain ⟨B, rfl⟩ := Int.eq_ofNat_of_zero_le hb.1
  have h1 : A % 2 ^ 64 = A := Nat.mod_eq_of_lt (by omega)
  have h2 : B % 2 ^ 64 = B := Nat.mod_eq_of_lt (by omega)
  have h3 : A = 2 ^ 32 * (A / 4294967296) := by omega
  have e : ((BitVec.ofInt 64 (A : Int)) ||| BitVec.ofInt 64 (B : Int)).toNat = A + B := by
    rw [BitVec.ofInt_natCast, BitVec.ofInt_natCast, BitVec.toNat_or, BitVec.toNat_ofNat, BitVec.toNat_ofNat, h1, h2]
    rw [h3, ← Nat.two_pow_add_eq_or_of_lt (by omega)]
  show some (CV.int .u64 (IntKind.u64.wrap (((BitVec.ofInt 64 (A : Int)) ||| BitVec.ofInt 64 (B : Int)).toNat : Nat))) = _
  rw [e, wrapu_in (by omega)]
  simp
def cellsV (z : Int) : List CV := [.bool (decide (z < 0)), .int .u64 (absI z / 18446744073709551616), .int .u64 (absI z % 18446744073709551616)]
theorem cellsV_eq {z hi lo : Int} {neg : Bool} (h1 : neg = decide (z < 0)) (h2 : hi = absI z / 18446744073709551616) (h3 : lo = absI z % 18446744073709551616) : CV.agg (cellsV z) = one_ [.agg [.bool neg, .int .u64 hi, .int .u64 lo]] := by
  subst h1 h2 h3; rfl
theorem C_rTimes (a b : Int) (ha : I64 a) (hb : I64 b) : PCallG Try.prog 100 [.c (.int .i64 a), .c (.int .i64 b)] (.c (.agg (cellsV (a * b)))) [] := by
  have hA := absI_in ha
  have hB := absI_in hb
  have hS1 := C_rSize a ha
  have hS2 := C_rSize b hb
  have hab := abs_prod a b
  generalize absI a = x at *
  generalize absI b = y at *
  have hp0 : 0 ≤ x * y := Int.mul_nonneg hA.1 hB.1
  have hq : absI (a * b) = x * y := by
    unfold absI
    split at hab <;> split <;> omega
  have hneg : x * y ≠ 0 → (!(decide (a < 0) == decide (b < 0))) = decide (a * b < 0) := fun hne => by
    by_cases h1 : a < 0 <;> by_cases h2 : b < 0 <;> simp [h1, h2] at hab ⊢ <;> omega
  have hneg0 : x * y = 0 → false = decide (a * b < 0) := fun h0 => by
    have : ¬ a * b < 0 := by split at hab <;> omega
    simp [this]
  have e := halves x y (x % 4294967296) (x / 4294967296) (y % 4294967296) (y / 4294967296) (by omega) (by omega)
  have b00 := prod_le (a := x % 4294967296) (b := y % 4294967296) (m := 4294967295) (by omega) (by omega) (by omega) (by omega)
  have b10 := prod_le (a := x / 4294967296) (b := y % 4294967296) (m := 4294967295) (by omega) (by omega) (by omega) (by omega)
  have b01 := prod_le (a := x % 4294967296) (b := y / 4294967296) (m := 4294967295) (by omega) (by omega) (by omega) (by omega)
  have b11 := prod_le (a := x / 4294967296) (b := y / 4294967296) (m := 4294967295) (by omega) (by omega) (by omega) (by omega)
  have hp32 : (2 : Int) ^ 32 = 4294967296 := by decide
  have step : ∀ {C : CallP} {l : List POp} {s : PS} {K : PS → Prop} {d : Nat} {u v : PO} {a : Int}, s.ev u = .c (.int .u64 a) → s.ev v = .c (.int .u64 4294967295) → (0 ≤ a ∧ a ≤ 18446744073709551615) → wL C l (s.put d (.c (.int .u64 (a % 4294967296)))) K → wL C (⟨some d, .bin .and u v, none⟩ :: l) s K :=
    fun h1 h2 h3 h4 => and_mask 32 (by decide) (by decide) h1 h2 h3 (by rw [hp32]; exact h4)
  refine pcallF Try.func100 c100 rfl ?_
  unfold p100 r100_0 r100_1 r100_2 r100_3 r100_4 r100_5 r100_6 r100_7
  repeat' (first | refine call1 rfl hS1 ?_ | refine call1 rfl hS2 ?_ | refine step rfl rfl (by omega) ?_ | refine shl_n (n := 32) (m := 4294967296) rfl rfl (by decide) (by decide) ?_ | refine or_low rfl rfl (by omega) (by omega) (by omega) ?_ | refine w_seq ?_ | refine w_ops ?_ | refine st_nil ?_ | refine th_n ?_ | refine w_skip ?_ | refine w_ret ?_ | refine w_false rfl ?_ | refine w_condd rfl (fun hc => ?_) (fun hc => ?_) | refine g_yes rfl ?_ | refine g_no rfl ?_ | refine g_splitd rfl (fun hg => ?_) (fun hg => ?_) | refine mv_c rfl ?_ | refine pick_t rfl rfl ?_ | refine pick_f rfl rfl ?_ | refine lss_ rfl rfl ?_ | refine eqd_ rfl rfl ?_ | refine neqB_ rfl rfl ?_ | refine addu_in rfl rfl (by omega) ?_ | refine mulu_in rfl rfl (by first | assumption | omega) ?_ | refine shr_n (n := 32) (m := 4294967296) rfl rfl (by decide) (by decide) ?_ | refine alloc_ (fun u => ?_) | refine build_ rfl rfl ?_ | refine load_ptr rfl (by decide) rfl (Nat.le_of_ble_eq_true rfl) rfl ?_ | refine store_ptr rfl rfl (by decide) rfl rfl (Nat.le_of_ble_eq_true rfl) rfl ?_ | refine fad_ptr rfl rfl rfl ?_)
  all_goals
    refine fin_r (rv_cell rfl rfl rfl rfl rv_nil) ?_
    refine cellsV_eq ?_ ?_ ?_
    · first
        | exact hneg (by omega)
        | exact hneg0 (by omega)
    · rw [hq]; omega
    · rw [hq]; omega
end Go.Proofs.Ytcmejdkjfekoeaa
namespace Go.Proofs.Ytcmejdkjfekoeaa
open Go.Pl Go.Bag
set_option maxHeartbeats 8000000
theorem lay_loop {C : CallP} {K : Ex → PS → Prop} (l : List Run) (v n : Int) (hlen : l.length < 400000000) : ∀ (rest : List Run) (i : Nat) (d : Bool) (out : List Run) (es : List (List CV)) (s : PS), l.drop i = rest → i ≤ l.length → es = encE out → out.length + 2 * rest.length < 1000000000 →
    (∀ r ∈ rest, -9223372036854775808 ≤ r.2 + n ∧ r.2 + n ≤ 9223372036854775807) →
    s.t 0 = .c (encL l) → s.t 1 = .c (.int .i64 v) → s.t 2 = .c (.int .i64 n) → s.t 8 = .c (.bool d) → s.t 9 = .c (.int .i64 i) → s.t 7 = .osl 7 (s.bx 7).ver 0 es.length → s.bx 7 = ⟨(s.bx 7).ver, .sl 2 es⟩ →
    (∀ s', (out ++ (layB v n d rest).1).length < 1000000000 → s'.t 1 = .c (.int .i64 v) → s'.t 2 = .c (.int .i64 n) → s'.t 8 = .c (.bool (layB v n d rest).2) → s'.t 7 = .osl 7 (s'.bx 7).ver 0 (encE (out ++ (layB v n d rest).1)).length → s'.bx 7 = ⟨(s'.bx 7).ver, .sl 2 (encE (out ++ (layB v n d rest).1))⟩ → K (.x 0) s') → wP C (.loop b81_0) s K := by
  intro rest
  induction rest with
  | nil =>
    intro i d out es s hd hi he hl hb t0 t1 t2 t8 t9 t7 b7 hx
    refine w_loop ?_
    have := get_end hd hi
    subst this
    subst he
    generalize (s.bx 7).ver = v7 at t7 b7
    rw [← put_same t0, ← put_same t1, ← put_same t2, ← put_same t8, ← put_same t9, ← put_same t7, ← box_same b7]
    unfold b81_0 r81_4 r81_5 r81_6 r81_7 r81_8 r81_9 r81_10 r81_11 r81_12 r81_13
    repeat' (first | refine w_seq ?_ | refine w_ops ?_ | refine st_nil ?_ | refine th_n ?_ | refine th_x ?_ | refine w_exit ?_ | refine w_false rfl ?_ | refine mv_c rfl ?_ | refine lss_f rfl rfl (by omega) ?_ | refine len_sl rfl (by first | assumption | exact List.length_map _) ?_)
    exact hx _ (by simpa [layB] using hl) (by rfl) (by rfl) (by rfl) (by simp only [layB, List.append_nil]; rfl) (by simp only [layB, List.append_nil]; rfl)
  | cons r rest ih =>
    intro i d out es s hd hi he hl hb t0 t1 t2 t8 t9 t7 b7 hx
    refine w_loop ?_
    have hget := get_enc hd
    have hil := get_len hd
    have hn := get_next hd
    have hr1 := hb r (by simp)
    have hb' : ∀ q ∈ rest, -9223372036854775808 ≤ q.2 + n ∧ q.2 + n ≤ 9223372036854775807 := fun q hq => hb q (by simp [hq])
    have hlr : (r :: rest).length = rest.length + 1 := rfl
    have hgrow : ∀ q : List CV, es.length + [q].length ≤ maxGrow := fun q => by
      subst he; simp [encE, maxGrow]; omega
    have hgrow2 : ∀ q p : List CV, (es ++ [p]).length + [q].length ≤ maxGrow := fun q p => by
      subst he; simp [encE, maxGrow]; omega
    have hz : ∀ p : Run, es ++ [[.int .i64 p.1, .int .i64 p.2]] = encE (out ++ [p]) := fun p => by subst he; simp [encE, encR]
    have hz2 : ∀ p q : Run, es ++ [[.int .i64 p.1, .int .i64 p.2]] ++ [[.int .i64 q.1, .int .i64 q.2]] = encE (out ++ [p] ++ [q]) := fun p q => by subst he; simp [encE, encR]
    generalize (s.bx 7).ver = v7 at t7 b7
    rw [← put_same t0, ← put_same t1, ← put_same t2, ← put_same t8, ← put_same t9, ← put_same t7, ← box_same b7]
    unfold b81_0 r81_4 r81_5 r81_6 r81_7 r81_8 r81_9 r81_10 r81_11 r81_12 r81_13
    cases d with
    | true =>
      repeat' (first | refine app_own rfl rfl rfl rfl (hgrow _) (by intro e he; cases List.mem_singleton.mp he; rfl) rfl rfl (fun _ _ => ?_) | refine w_seq ?_ | refine w_ops ?_ | refine st_nil ?_ | refine th_n ?_ | refine bk_n ?_ | refine w_block ?_ | refine w_skip ?_ | refine w_true rfl ?_ | refine w_false rfl ?_ | refine w_condd rfl (fun hc => ?_) (fun hc => ?_) | refine g_no rfl ?_ | refine mv_c rfl ?_ | refine mv_osl rfl ?_ | refine pick_f rfl rfl ?_ | refine lss_t rfl rfl (by omega) ?_ | refine ned_ rfl rfl ?_ | refine not_ rfl ?_ | refine add_in rfl rfl (by omega) ?_ | refine alloc_ (fun u => ?_) | refine bsl_ rfl rfl ?_ | refine load_rp rfl (Nat.le_of_ble_eq_true rfl) rfl ?_ | refine load_ptr rfl (by decide) rfl (Nat.le_of_ble_eq_true rfl) rfl ?_ | refine store_ptr rfl rfl (by decide) rfl rfl (Nat.le_of_ble_eq_true rfl) rfl ?_ | refine fad_ptr rfl rfl rfl ?_ | refine iaS_c rfl rfl (by omega) (by assumption) rfl ?_ | refine len_sl rfl (by first | assumption | exact List.length_map _) ?_ | refine w_rn_same rfl ?_ | refine w_rn rfl (by decide) rfl rfl (fun _ _ => ?_))
      · have e : layB v n true (r :: rest) = ([r] ++ (layB v n true rest).1, (layB v n true rest).2) := by simp [layB, keepR, hc]
        rw [e, ← List.append_assoc] at hx
        exact ih (i + 1) true (out ++ [r]) _ _ hn (by omega) (hz r) (by simp; omega) hb' (by rfl) (by rfl) (by rfl) (by rfl) (by rfl) (by rfl) (by rfl) hx
      · have e : layB v n true (r :: rest) = ((layB v n true rest).1, (layB v n true rest).2) := by
          have : r.2 = 0 := by omega
          simp [layB, keepR, this]
        rw [e] at hx
        exact ih (i + 1) true out es _ hn (by omega) he (by omega) hb' (by rfl) (by rfl) (by rfl) (by rfl) (by rfl) (by rfl) (by rfl) hx
    | false =>
      by_cases h1 : v ≤ r.1
      · by_cases h2 : v < r.1
        · repeat' (first | refine app_own rfl rfl rfl rfl (hgrow _) (by intro e he; cases List.mem_singleton.mp he; rfl) rfl rfl (fun _ _ => ?_) | refine app_own rfl rfl rfl rfl (hgrow2 _ _) (by intro e he; cases List.mem_singleton.mp he; rfl) rfl rfl (fun _ _ => ?_) | refine w_seq ?_ | refine w_ops ?_ | refine st_nil ?_ | refine th_n ?_ | refine bk_n ?_ | refine w_block ?_ | refine w_skip ?_ | refine w_true rfl ?_ | refine w_condd rfl (fun hc => ?_) (fun hc => ?_) | refine g_yes rfl ?_ | refine mv_c rfl ?_ | refine mv_osl rfl ?_ | refine pick_t rfl rfl ?_ | refine lss_t rfl rfl (by omega) ?_ | refine gtr_t rfl rfl (by omega) ?_ | refine geq_t rfl rfl (by omega) ?_ | refine ned_ rfl rfl ?_ | refine not_ rfl ?_ | refine add_in rfl rfl (by omega) ?_ | refine alloc_ (fun u => ?_) | refine build_ rfl rfl ?_ | refine bsl_ rfl rfl ?_ | refine load_rp rfl (Nat.le_of_ble_eq_true rfl) rfl ?_ | refine load_ptr rfl (by decide) rfl (Nat.le_of_ble_eq_true rfl) rfl ?_ | refine store_ptr rfl rfl (by decide) rfl rfl (Nat.le_of_ble_eq_true rfl) rfl ?_ | refine fad_ptr rfl rfl rfl ?_ | refine iaS_c rfl rfl (by omega) (by assumption) rfl ?_ | refine len_sl rfl (by first | assumption | exact List.length_map _) ?_ | refine w_rn rfl (by decide) rfl rfl (fun _ _ => ?_))
          · have e : layB v n false (r :: rest) = ([(v, n)] ++ ([r] ++ (layB v n true rest).1), (layB v n true rest).2) := by simp [layB, keepR, hc, h1, h2]
            rw [e, ← List.append_assoc, ← List.append_assoc] at hx
            exact ih (i + 1) true (out ++ [(v, n)] ++ [r]) _ _ hn (by omega) (hz2 (v, n) r) (by simp; omega) hb' (by rfl) (by rfl) (by rfl) (by rfl) (by rfl) (by rfl) (by rfl) hx
          · have e : layB v n false (r :: rest) = ([(v, n)] ++ (layB v n true rest).1, (layB v n true rest).2) := by
              have : r.2 = 0 := by omega
              simp [layB, keepR, this, h1, h2]
            rw [e, ← List.append_assoc] at hx
            exact ih (i + 1) true (out ++ [(v, n)]) _ _ hn (by omega) (hz (v, n)) (by simp; omega) hb' (by rfl) (by rfl) (by rfl) (by rfl) (by rfl) (by rfl) (by rfl) hx
        · repeat' (first | refine app_own rfl rfl rfl rfl (hgrow _) (by intro e he; cases List.mem_singleton.mp he; rfl) rfl rfl (fun _ _ => ?_) | refine w_seq ?_ | refine w_ops ?_ | refine st_nil ?_ | refine th_n ?_ | refine bk_n ?_ | refine w_block ?_ | refine w_skip ?_ | refine w_true rfl ?_ | refine w_false rfl ?_ | refine w_condd rfl (fun hc => ?_) (fun hc => ?_) | refine g_yes rfl ?_ | refine mv_c rfl ?_ | refine mv_osl rfl ?_ | refine pick_t rfl rfl ?_ | refine lss_t rfl rfl (by omega) ?_ | refine gtr_f rfl rfl (by omega) ?_ | refine geq_t rfl rfl (by omega) ?_ | refine ned_ rfl rfl ?_ | refine not_ rfl ?_ | refine add_in rfl rfl (by omega) ?_ | refine alloc_ (fun u => ?_) | refine bsl_ rfl rfl ?_ | refine load_rp rfl (Nat.le_of_ble_eq_true rfl) rfl ?_ | refine load_ptr rfl (by decide) rfl (Nat.le_of_ble_eq_true rfl) rfl ?_ | refine store_ptr rfl rfl (by decide) rfl rfl (Nat.le_of_ble_eq_true rfl) rfl ?_ | refine fad_ptr rfl rfl rfl ?_ | refine iaS_c rfl rfl (by omega) (by assumption) rfl ?_ | refine len_sl rfl (by first | assumption | exact List.length_map _) ?_ | refine w_rn_same rfl ?_ | refine w_rn rfl (by decide) rfl rfl (fun _ _ => ?_))
          · have e : layB v n false (r :: rest) = ([(r.1, r.2 + n)] ++ (layB v n true rest).1, (layB v n true rest).2) := by simp [layB, keepR, hc, h1, h2]
            rw [e, ← List.append_assoc] at hx
            exact ih (i + 1) true (out ++ [(r.1, r.2 + n)]) _ _ hn (by omega) (hz (r.1, r.2 + n)) (by simp; omega) hb' (by rfl) (by rfl) (by rfl) (by rfl) (by rfl) (by rfl) (by rfl) hx
          · have e : layB v n false (r :: rest) = ((layB v n true rest).1, (layB v n true rest).2) := by
              have : r.2 + n = 0 := by omega
              simp [layB, keepR, this, h1, h2]
            rw [e] at hx
            exact ih (i + 1) true out es _ hn (by omega) he (by omega) hb' (by rfl) (by rfl) (by rfl) (by rfl) (by rfl) (by rfl) (by rfl) hx
      · repeat' (first | refine app_own rfl rfl rfl rfl (hgrow _) (by intro e he; cases List.mem_singleton.mp he; rfl) rfl rfl (fun _ _ => ?_) | refine w_seq ?_ | refine w_ops ?_ | refine st_nil ?_ | refine th_n ?_ | refine bk_n ?_ | refine w_block ?_ | refine w_skip ?_ | refine w_true rfl ?_ | refine w_false rfl ?_ | refine w_condd rfl (fun hc => ?_) (fun hc => ?_) | refine g_yes rfl ?_ | refine mv_c rfl ?_ | refine mv_osl rfl ?_ | refine pick_t rfl rfl ?_ | refine lss_t rfl rfl (by omega) ?_ | refine geq_f rfl rfl (by omega) ?_ | refine ned_ rfl rfl ?_ | refine not_ rfl ?_ | refine add_in rfl rfl (by omega) ?_ | refine alloc_ (fun u => ?_) | refine bsl_ rfl rfl ?_ | refine load_rp rfl (Nat.le_of_ble_eq_true rfl) rfl ?_ | refine load_ptr rfl (by decide) rfl (Nat.le_of_ble_eq_true rfl) rfl ?_ | refine store_ptr rfl rfl (by decide) rfl rfl (Nat.le_of_ble_eq_true rfl) rfl ?_ | refine fad_ptr rfl rfl rfl ?_ | refine iaS_c rfl rfl (by omega) (by assumption) rfl ?_ | refine len_sl rfl (by first | assumption | exact List.length_map _) ?_ | refine w_rn_same rfl ?_ | refine w_rn rfl (by decide) rfl rfl (fun _ _ => ?_))
        · have e : layB v n false (r :: rest) = ([r] ++ (layB v n false rest).1, (layB v n false rest).2) := by simp [layB, keepR, hc, h1]
          rw [e, ← List.append_assoc] at hx
          exact ih (i + 1) false (out ++ [r]) _ _ hn (by omega) (hz r) (by simp; omega) hb' (by rfl) (by rfl) (by rfl) (by rfl) (by rfl) (by rfl) (by rfl) hx
        · have e : layB v n false (r :: rest) = ((layB v n false rest).1, (layB v n false rest).2) := by
            have : r.2 = 0 := by omega
            simp [layB, keepR, this, h1]
          rw [e] at hx
          exact ih (i + 1) false out es _ hn (by omega) he (by omega) hb' (by rfl) (by rfl) (by rfl) (by rfl) (by rfl) (by rfl) (by rfl) hx
theorem C_Lay (l : List Run) (v n : Int) (hlen : l.length < 400000000) (hb : ∀ r ∈ l, -9223372036854775808 ≤ r.2 + n ∧ r.2 + n ≤ 9223372036854775807) :
    PCallG Try.prog 81 [.c (encL l), .c (.int .i64 v), .c (.int .i64 n)] (.c (encL (lay l v n))) [] := by
  refine pcallF Try.func81 c81 rfl ?_
  unfold p81 r81_0 r81_1 r81_2 r81_3 r81_14 r81_15 r81_16
  repeat' (first | refine w_seq ?_ | refine w_ops ?_ | refine st_nil ?_ | refine th_n ?_ | refine w_block ?_ | refine mv_c rfl ?_ | refine own0_ (fun u => ?_))
  refine lay_loop l v n hlen l 0 false [] [] _ rfl (by omega) rfl (by simp; omega) hb (by rfl) (by rfl) (by rfl) (by rfl) (by rfl) (by rfl) (by rfl) ?_
  intro s' hl t1 t2 t8 t7 b7
  simp only [List.nil_append] at hl t7 b7
  have hgrow : ∀ q : List CV, (encE (layB v n false l).1).length + [q].length ≤ maxGrow := fun q => by simp [encE, maxGrow]; omega
  generalize (s'.bx 7).ver = v7 at t7 b7
  rw [← put_same t1, ← put_same t2, ← put_same t8, ← put_same t7, ← box_same b7]
  cases hd : (layB v n false l).2 with
  | true =>
    repeat' (first | refine w_seq ?_ | refine w_ops ?_ | refine st_nil ?_ | refine th_n ?_ | refine bk_x ?_ | refine w_skip ?_ | refine w_ret ?_ | refine w_false rfl ?_ | refine mv_c rfl ?_ | refine mv_osl rfl ?_ | refine not_ rfl ?_)
    refine fin_r (rv_own rfl rfl rfl rv_nil) ?_
    simp [one_, lay, hd, encL, encE]
  | false =>
    repeat' (first | refine app_own rfl rfl rfl rfl (hgrow _) (by intro e he; cases List.mem_singleton.mp he; rfl) rfl rfl (fun _ _ => ?_) | refine w_seq ?_ | refine w_ops ?_ | refine st_nil ?_ | refine th_n ?_ | refine bk_x ?_ | refine w_ret ?_ | refine w_true rfl ?_ | refine mv_c rfl ?_ | refine mv_osl rfl ?_ | refine not_ rfl ?_ | refine build_ rfl rfl ?_ | refine bsl_ rfl rfl ?_)
    refine fin_r (rv_own rfl rfl rfl rv_nil) ?_
    simp [one_, lay, hd, encL, encE]
    rfl
end Go.Proofs.Ytcmejdkjfekoeaa
namespace Go.Proofs.Ytcmejdkjfekoeaa
open Go.Pl Go.Bag
set_option maxHeartbeats 4000000
theorem rgood_loop {C : CallP} {K : Ex → PS → Prop} (l : List Run) (hlen : l.length < 4611686018427387904) : ∀ (rest : List Run) (i : Nat) (sum : Int) (p : Option Int) (s : PS), l.drop i = rest → i ≤ l.length → 0 ≤ sum → sum ≤ 1099511627776 →
    (i = 0 → p = none) → (0 < i → ∃ q, (l.map encR)[((i : Int) - 1).toNat]? = some (encR q) ∧ p = some q.1) →
    s.t 0 = .c (encL l) → s.t 4 = .c (.int .i64 i) → s.t 3 = .c (.int .i64 sum) →
    (goodFrom p sum rest = true → ∀ s', K (.x 0) s') → (goodFrom p sum rest = false → ∀ s', s'.t 2 = .c (.bool false) → K .r s') → wP C (.loop b34_0) s K := by
  intro rest
  induction rest with
  | nil =>
    intro i sum p s hd hi h0 h1 hp0 hp1 t0 t4 t3 hx hr
    refine w_loop ?_
    have := get_end hd hi
    subst this
    rw [← put_same t0, ← put_same t4]
    unfold b34_0 r34_3 r34_4 r34_5 r34_6 r34_7
    repeat' (first | refine w_seq ?_ | refine w_ops ?_ | refine st_nil ?_ | refine th_n ?_ | refine th_x ?_ | refine w_exit ?_ | refine w_false rfl ?_ | refine mv_c rfl ?_ | refine lss_f rfl rfl (by omega) ?_ | refine len_sl rfl (by first | assumption | exact List.length_map _) ?_)
    exact hx rfl _
  | cons r rest ih =>
    intro i sum p s hd hi h0 h1 hp0 hp1 t0 t4 t3 hx hr
    refine w_loop ?_
    have he := get_enc hd
    have hl := get_len hd
    have hn := get_next hd
    rw [← put_same t0, ← put_same t4, ← put_same t3]
    unfold b34_0 r34_3 r34_4 r34_5 r34_6 r34_7
    have next : ∀ s'', (p.any (fun a => decide (r.1 ≤ a)) = false) → 1 ≤ r.2 → r.2 ≤ 1099511627776 - sum → s''.t 0 = .c (encL l) → s''.t 4 = .c (.int .i64 (i + 1)) → s''.t 3 = .c (.int .i64 (sum + r.2)) → wP C (.loop b34_0) s'' K := by
      intro s'' g1 g2 g3 u0 u4 u3
      have e : goodFrom p sum (r :: rest) = goodFrom (some r.1) (sum + r.2) rest := by
        have : ¬ r.2 < 1 := by omega
        have : ¬ cap - sum < r.2 := by unfold cap; omega
        simp [goodFrom, *]
      rw [e] at hx hr
      refine ih (i + 1) (sum + r.2) (some r.1) s'' hn (by omega) (by omega) (by omega) (by omega) (fun _ => ⟨r, ?_, rfl⟩) u0 u4 u3 hx hr
      have : (((i + 1 : Nat) : Int) - 1).toNat = i := by omega
      rw [this]; exact he
    have bad : ∀ s'', (p.any (fun a => decide (r.1 ≤ a)) = true ∨ r.2 < 1 ∨ 1099511627776 - sum < r.2) → s''.t 2 = .c (.bool false) → K .r s'' := by
      intro s'' g u2
      refine hr ?_ s'' u2
      rcases g with g | g | g
      · simp [goodFrom, g]
      · simp [goodFrom, g]
      · have : cap - sum < r.2 := g
        simp [goodFrom, this]
    rcases Nat.eq_zero_or_pos i with hz | hz
    · have hp := hp0 hz
      repeat' (first | refine w_seq ?_ | refine w_ops ?_ | refine w_opsD0 rfl ?_ | refine st_nil ?_ | refine th_n ?_ | refine th_r ?_ | refine bk_n ?_ | refine bk_r ?_ | refine w_block ?_ | refine w_skip ?_ | refine w_ret ?_ | refine w_true rfl ?_ | refine w_condd rfl (fun hc => ?_) (fun hc => ?_) | refine g_yes rfl ?_ | refine g_no rfl ?_ | refine g_splitd rfl (fun hg => ?_) (fun hg => ?_) | refine mv_c rfl ?_ | refine pick_t rfl rfl ?_ | refine pick_f rfl rfl ?_ | refine lss_t rfl rfl (by omega) ?_ | refine lss_ rfl rfl ?_ | refine gtr_f rfl rfl (by omega) ?_ | refine gtr_ rfl rfl ?_ | refine add_in rfl rfl (by omega) ?_ | refine sub_in rfl rfl (by omega) ?_ | refine load_rp rfl (Nat.le_of_ble_eq_true rfl) rfl ?_ | refine fad_rp rfl (Nat.le_of_ble_eq_true rfl) rfl ?_ | refine iaS_c rfl rfl (by omega) (by assumption) rfl ?_ | refine len_sl rfl (by first | assumption | exact List.length_map _) ?_)
      all_goals (first | exact next _ (by simp [hp]) (by omega) (by omega) (by rfl) (by rfl) (by rfl) | exact bad _ (.inr (by omega)) rfl)
    · obtain ⟨q, hq, hp⟩ := hp1 hz
      repeat' (first | refine w_seq ?_ | refine w_ops ?_ | refine w_opsD0 rfl ?_ | refine st_nil ?_ | refine th_n ?_ | refine th_r ?_ | refine bk_n ?_ | refine bk_r ?_ | refine w_block ?_ | refine w_skip ?_ | refine w_ret ?_ | refine w_true rfl ?_ | refine w_condd rfl (fun hc => ?_) (fun hc => ?_) | refine g_yes rfl ?_ | refine g_no rfl ?_ | refine g_splitd rfl (fun hg => ?_) (fun hg => ?_) | refine mv_c rfl ?_ | refine pick_t rfl rfl ?_ | refine pick_f rfl rfl ?_ | refine lss_t rfl rfl (by omega) ?_ | refine lss_ rfl rfl ?_ | refine gtr_t rfl rfl (by omega) ?_ | refine gtr_ rfl rfl ?_ | refine geq_ rfl rfl ?_ | refine add_in rfl rfl (by omega) ?_ | refine sub_in rfl rfl (by omega) ?_ | refine load_rp rfl (Nat.le_of_ble_eq_true rfl) rfl ?_ | refine fad_rp rfl (Nat.le_of_ble_eq_true rfl) rfl ?_ | refine iaS_c rfl rfl (by omega) (by assumption) rfl ?_ | refine len_sl rfl (by first | assumption | exact List.length_map _) ?_)
      all_goals (first | exact next _ (by simp [hp]; omega) (by omega) (by omega) (by rfl) (by rfl) (by rfl) | exact bad _ (.inr (by omega)) rfl | exact bad _ (.inl (by simp [hp]; omega)) rfl)
theorem C_rGood (l : List Run) (hlen : l.length < 4611686018427387904) : PCallG Try.prog 34 [.c (encL l)] (.c (.bool (good l))) [] := by
  refine pcallF Try.func34 c34 rfl ?_
  unfold p34 r34_0 r34_1 r34_2 r34_8
  repeat' (first | refine w_seq ?_ | refine w_ops ?_ | refine st_nil ?_ | refine th_n ?_ | refine w_block ?_ | refine mv_c rfl ?_)
  refine rgood_loop l hlen l 0 0 none _ rfl (by omega) (by omega) (by omega) (fun _ => rfl) (fun h => by omega) (by rfl) (by rfl) (by rfl) ?_ ?_
  · intro hg s'
    repeat' (first | refine w_seq ?_ | refine w_ops ?_ | refine st_nil ?_ | refine th_n ?_ | refine bk_x ?_ | refine w_ret ?_ | refine mv_c rfl ?_)
    exact fin_r rfl (by unfold good; rw [hg]; rfl)
  · intro hg s' h2
    rw [← put_same h2]
    repeat' (first | refine th_r ?_ | refine bk_r ?_)
    exact fin_r rfl (by unfold good; rw [hg]; rfl)
theorem rcount_loop {K : Ex → PS → Prop} (l : List Run) (hg : good l = true) (hlen : l.length < 4611686018427387904) : ∀ (rest : List Run) (i : Nat) (acc : Int) (s : PS), l.drop i = rest → i ≤ l.length → pos rest → 0 ≤ acc → acc + sum rest ≤ 1099511627776 →
    s.t 0 = .c (encL l) → s.t 4 = .c (.int .i64 i) → s.t 3 = .c (.int .i64 acc) →
    (∀ s', s'.t 3 = .c (.int .i64 (acc + sum rest)) → K (.x 0) s') → wP (PCallG Try.prog) (.loop b35_0) s K := by
  have hC := C_rGood l hlen
  rw [hg] at hC
  intro rest
  induction rest with
  | nil =>
    intro i acc s hd hi hp h0 h1 t0 t4 t3 hx
    refine w_loop ?_
    have := get_end hd hi
    subst this
    rw [← put_same t0, ← put_same t4, ← put_same t3]
    unfold b35_0 r35_3 r35_4 r35_5
    repeat' (first | refine call1 rfl hC ?_ | refine w_seq ?_ | refine w_ops ?_ | refine st_nil ?_ | refine th_n ?_ | refine th_x ?_ | refine w_exit ?_ | refine w_false rfl ?_ | refine g_yes rfl ?_ | refine mv_c rfl ?_ | refine pick_t rfl rfl ?_ | refine lss_f rfl rfl (by omega) ?_ | refine len_sl rfl (by first | assumption | exact List.length_map _) ?_)
    exact hx _ (by simp [sum]; rfl)
  | cons r rest ih =>
    intro i acc s hd hi hp h0 h1 t0 t4 t3 hx
    refine w_loop ?_
    have he := get_enc hd
    have hl := get_len hd
    have hn := get_next hd
    have hr := hp r (by simp)
    have hp' : pos rest := fun q hq => hp q (by simp [hq])
    have hs := sum_nonneg hp'
    have e : acc + sum (r :: rest) = acc + r.2 + sum rest := by simp only [sum]; omega
    rw [e] at h1 hx
    rw [← put_same t0, ← put_same t4, ← put_same t3]
    unfold b35_0 r35_3 r35_4 r35_5
    repeat' (first | refine call1 rfl hC ?_ | refine w_seq ?_ | refine w_ops ?_ | refine st_nil ?_ | refine th_n ?_ | refine bk_n ?_ | refine w_block ?_ | refine w_skip ?_ | refine w_true rfl ?_ | refine g_yes rfl ?_ | refine mv_c rfl ?_ | refine pick_t rfl rfl ?_ | refine lss_t rfl rfl (by omega) ?_ | refine add_in rfl rfl (by omega) ?_ | refine load_rp rfl (Nat.le_of_ble_eq_true rfl) rfl ?_ | refine fad_rp rfl (Nat.le_of_ble_eq_true rfl) rfl ?_ | refine iaS_c rfl rfl (by omega) (by assumption) rfl ?_ | refine len_sl rfl (by first | assumption | exact List.length_map _) ?_)
    exact ih (i + 1) (acc + r.2) _ hn (by omega) hp' (by omega) (by omega) (by rfl) (by rfl) (by rfl) hx
theorem C_rCount (l : List Run) (hlen : l.length < 4611686018427387904) : PCallG Try.prog 35 [.c (encL l)] (.c (.int .i64 (if good l then sum l else 0))) [] := by
  refine pcallF Try.func35 c35 rfl ?_
  unfold p35 r35_0 r35_1 r35_2 r35_6
  by_cases hg : good l = true
  · obtain ⟨hp, hs⟩ := good_facts hg
    have hs' : sum l ≤ 1099511627776 := hs
    repeat' (first | refine w_seq ?_ | refine w_ops ?_ | refine st_nil ?_ | refine th_n ?_ | refine w_block ?_ | refine mv_c rfl ?_)
    refine rcount_loop l hg hlen l 0 0 _ rfl (by omega) hp (by omega) (by omega) (by rfl) (by rfl) (by rfl) (fun s' h3 => ?_)
    rw [← put_same h3]
    repeat' (first | refine w_seq ?_ | refine w_ops ?_ | refine st_nil ?_ | refine th_n ?_ | refine bk_x ?_ | refine w_ret ?_ | refine mv_c rfl ?_)
    exact fin_r rfl (by simp [one_, hg])
  · simp only [Bool.not_eq_true] at hg
    have hC := C_rGood l hlen
    rw [hg] at hC
    repeat' (first | refine w_seq ?_ | refine w_ops ?_ | refine st_nil ?_ | refine th_n ?_ | refine w_block ?_ | refine mv_c rfl ?_)
    refine w_loop ?_
    unfold b35_0 r35_3 r35_4 r35_5
    repeat' (first | refine call1 rfl hC ?_ | refine w_seq ?_ | refine w_ops ?_ | refine st_nil ?_ | refine th_n ?_ | refine th_x ?_ | refine bk_x ?_ | refine w_exit ?_ | refine w_ret ?_ | refine w_false rfl ?_ | refine g_no rfl ?_ | refine mv_c rfl ?_ | refine pick_f rfl rfl ?_)
    exact fin_r rfl (by simp [one_, hg])
end Go.Proofs.Ytcmejdkjfekoeaa
namespace Go.Proofs.Ytcmejdkjfekoeaa
open Go.Pl Go.Bag
set_option maxHeartbeats 4000000
end Go.Proofs.Ytcmejdkjfekoeaa
/-
  DERIVED: THE SHELF's CONTRACTS AT THIS DUMP, IN PLAIN WORDS (tools/lay-plain.mjs out of 'YtcmejdkjfekoeaaLays.lean', which tools/lay-shelf.mjs wrote): THE SAME DECLARATIONS UNDER THE SAME NAMES: 'import', 'namespace', 'open', 'def', 'theorem' AND NOTHING ELSE: no command of the shelf's: FOR A HAND-IN. Each laying: the table of numbers ('.._ren') and one theorem, a field a fact of the dump's own or the kernel's comparison; each contract: ONE APPLICATION.
-/
namespace Go.Proofs
open Go.Shelf
def Try.sorted_ren : Go.Shelf.Ren := ⟨fun | 6 => 82 | 8 => 115 | 9 => 116 | 11 => 138 | 13 => 140 | 12 => 139 | 23 => 156 | 24 => 157 | 14 => 147 | 15 => 148 | 16 => 149 | 17 => 150 | 18 => 151 | 19 => 152 | 20 => 153 | 21 => 154 | 22 => 155 | 25 => 160 | 26 => 161 | 27 => 162 | 28 => 163 | 29 => 164 | 30 => 124 | 31 => 165 | n => n, fun | 26 => 2 | 28 => 138 | 24 => 22 | 0 => 0 | 3 => 3 | 37 => 180 | 48 => 215 | 50 => 31 | 4 => 4 | 40 => 207 | 39 => 206 | 45 => 212 | 5 => 5 | 9 => 9 | 51 => 219 | 55 => 223 | 57 => 225 | 58 => 226 | 33 => 179 | n => n, fun | n => n⟩
theorem Try.sorted : Go.Proofs.SlLaysZI.n6 Try.prog Try.sorted_ren := {
  mixed := by kernel_rfl
  f6 := ⟨Try.f82.name, by decide, Try.func82.trans (congrArg some (by kernel_rfl))⟩
  f8 := ⟨Try.f115.name, by decide, Try.func115.trans (congrArg some (by kernel_rfl))⟩
  f11 := ⟨Try.f138.name, by decide, Try.func138.trans (congrArg some (by kernel_rfl))⟩
  t0 := Try.underlying0
  a0 := Try.isAgg0
  z0 := Try.sizeOf0
  v0 := Try.zeroValue0
  t24 := Try.underlying22
  a24 := Try.isAgg22
  z24 := Try.sizeOf22
  v24 := Try.zeroValue22
  t26 := Try.underlying2
  a26 := Try.isAgg2
  z26 := Try.sizeOf2
  v26 := Try.zeroValue2
  t28 := Try.underlying138
  a28 := Try.isAgg138
  z28 := Try.sizeOf138
  v28 := Try.zeroValue138
  i26 := by kernel_rfl }
def Try.sortA_ren : Go.Shelf.Ren := ⟨fun | 5 => 116 | 8 => 140 | 7 => 139 | 19 => 156 | 20 => 157 | 10 => 147 | 11 => 148 | 12 => 149 | 13 => 150 | 14 => 151 | 15 => 152 | 16 => 153 | 17 => 154 | 18 => 155 | 30 => 160 | 31 => 161 | 32 => 162 | 33 => 163 | 34 => 164 | 35 => 124 | 40 => 165 | n => n, fun | 23 => 22 | 25 => 2 | 3 => 3 | 32 => 180 | 22 => 22 | 0 => 0 | 44 => 215 | 46 => 31 | 4 => 4 | 36 => 207 | 35 => 206 | 41 => 212 | 5 => 5 | 9 => 9 | 53 => 219 | 57 => 223 | 63 => 225 | 64 => 226 | n => n, fun | n => n⟩
theorem Try.sortA : Go.Proofs.SlLaysM.n5 Try.prog Try.sortA_ren := {
  mixed := by kernel_rfl
  f5 := ⟨Try.f116.name, by decide, Try.func116.trans (congrArg some (by kernel_rfl))⟩
  f7 := ⟨Try.f139.name, by decide, Try.func139.trans (congrArg some (by kernel_rfl))⟩
  f8 := Try.func140.trans (congrArg some (by kernel_rfl))
  f10 := ⟨Try.f147.name, by decide, Try.func147.trans (congrArg some (by kernel_rfl))⟩
  f11 := ⟨Try.f148.name, by decide, Try.func148.trans (congrArg some (by kernel_rfl))⟩
  f12 := ⟨Try.f149.name, by decide, Try.func149.trans (congrArg some (by kernel_rfl))⟩
  f13 := ⟨Try.f150.name, by decide, Try.func150.trans (congrArg some (by kernel_rfl))⟩
  f14 := ⟨Try.f151.name, by decide, Try.func151.trans (congrArg some (by kernel_rfl))⟩
  f15 := ⟨Try.f152.name, by decide, Try.func152.trans (congrArg some (by kernel_rfl))⟩
  f16 := ⟨Try.f153.name, by decide, Try.func153.trans (congrArg some (by kernel_rfl))⟩
  f17 := ⟨Try.f154.name, by decide, Try.func154.trans (congrArg some (by kernel_rfl))⟩
  f18 := ⟨Try.f155.name, by decide, Try.func155.trans (congrArg some (by kernel_rfl))⟩
  f19 := Try.func156.trans (congrArg some (by kernel_rfl))
  f20 := Try.func157.trans (congrArg some (by kernel_rfl))
  f30 := ⟨Try.f160.name, by decide, Try.func160.trans (congrArg some (by kernel_rfl))⟩
  f31 := Try.func161.trans (congrArg some (by kernel_rfl))
  f32 := Try.func162.trans (congrArg some (by kernel_rfl))
  f33 := ⟨Try.f163.name, by decide, Try.func163.trans (congrArg some (by kernel_rfl))⟩
  f34 := ⟨Try.f164.name, by decide, Try.func164.trans (congrArg some (by kernel_rfl))⟩
  f35 := ⟨Try.f124.name, by decide, Try.func124.trans (congrArg some (by kernel_rfl))⟩
  f40 := ⟨Try.f165.name, by decide, Try.func165.trans (congrArg some (by kernel_rfl))⟩
  t0 := Try.underlying0
  a0 := Try.isAgg0
  z0 := Try.sizeOf0
  v0 := Try.zeroValue0
  t3 := Try.underlying3
  a3 := Try.isAgg3
  z3 := Try.sizeOf3
  v3 := Try.zeroValue3
  t4 := Try.underlying4
  a4 := Try.isAgg4
  z4 := Try.sizeOf4
  v4 := Try.zeroValue4
  t5 := Try.underlying5
  a5 := Try.isAgg5
  z5 := Try.sizeOf5
  v5 := Try.zeroValue5
  t9 := Try.underlying9
  a9 := Try.isAgg9
  z9 := Try.sizeOf9
  v9 := Try.zeroValue9
  t22 := Try.underlying22
  a22 := Try.isAgg22
  z22 := Try.sizeOf22
  v22 := Try.zeroValue22
  t23 := Try.underlying22
  a23 := Try.isAgg22
  z23 := Try.sizeOf22
  v23 := Try.zeroValue22
  t25 := Try.underlying2
  a25 := Try.isAgg2
  z25 := Try.sizeOf2
  v25 := Try.zeroValue2
  t32 := Try.underlying180
  a32 := Try.isAgg180
  z32 := Try.sizeOf180
  v32 := Try.zeroValue180
  t35 := Try.underlying206
  a35 := Try.isAgg206
  z35 := Try.sizeOf206
  v35 := Try.zeroValue206
  t36 := Try.underlying207
  a36 := Try.isAgg207
  z36 := Try.sizeOf207
  v36 := Try.zeroValue207
  t41 := Try.underlying212
  a41 := Try.isAgg212
  z41 := Try.sizeOf212
  v41 := Try.zeroValue212
  t44 := Try.underlying215
  a44 := Try.isAgg215
  z44 := Try.sizeOf215
  v44 := Try.zeroValue215
  t46 := Try.underlying31
  a46 := Try.isAgg31
  z46 := Try.sizeOf31
  v46 := Try.zeroValue31
  t53 := Try.underlying219
  a53 := Try.isAgg219
  z53 := Try.sizeOf219
  v53 := Try.zeroValue219
  t57 := Try.underlying223
  a57 := Try.isAgg223
  z57 := Try.sizeOf223
  v57 := Try.zeroValue223
  t63 := Try.underlying225
  a63 := Try.isAgg225
  z63 := Try.sizeOf225
  v63 := Try.zeroValue225
  t64 := Try.underlying226
  a64 := Try.isAgg226
  z64 := Try.sizeOf226
  v64 := Try.zeroValue226 }
end Go.Proofs

/- Part of the proof of DeltaTells, DeltaApplies, DeltaBack, DeltaJoins, DeltaSpoilt: lemmas. -/
import Derived.Test.YtcmejdkjfekoeaaDeltaS1
import Derived.Test.YtcmejdkjfekoeaaDeltaS5
set_option linter.unusedVariables false
set_option linter.unusedSimpArgs false
/-
  BAGS, PLAIN: what the functions of package bag compute, of lists of pairs. No program in sight. My own work.
-/
namespace Go.Bag
open Go.Pl
abbrev Run := Int × Int
def encR (r : Run) : List CV := [.int .i64 r.1, .int .i64 r.2]
def encL (l : List Run) : CV := .sl (l.map encR)
def cap : Int := 1099511627776
def goodFrom : Option Int → Int → List Run → Bool
  | _, _, [] => true
  | p, s, r :: l => !(p.any (fun a => decide (r.1 ≤ a))) && !(decide (r.2 < 1)) && !(decide (cap - s < r.2)) && goodFrom (some r.1) (s + r.2) l
def good (l : List Run) : Bool := goodFrom none 0 l
def sum : List Run → Int
  | [] => 0
  | r :: l => r.2 + sum l
def pos (l : List Run) : Prop := ∀ r ∈ l, 1 ≤ r.2
theorem sum_nonneg : ∀ {l : List Run}, pos l → 0 ≤ sum l
  | [], _ => by simp [sum]
  | r :: l, h => by
    have := h r (by simp)
    have := sum_nonneg (l := l) fun q hq => h q (by simp [hq])
    simp only [sum]; omega
theorem goodFrom_facts : ∀ {l : List Run} {p : Option Int} {s : Int}, s ≤ cap → goodFrom p s l = true → pos l ∧ s + sum l ≤ cap
  | [], _, s, hs, _ => ⟨fun r hr => by simp at hr, by simpa [sum] using hs⟩
  | r :: l, p, s, hs, h => by
    simp only [goodFrom, Bool.and_eq_true, Bool.not_eq_true', decide_eq_false_iff_not] at h
    obtain ⟨⟨⟨_, h1⟩, h2⟩, h3⟩ := h
    obtain ⟨g1, g2⟩ := goodFrom_facts (by omega) h3
    refine ⟨fun q hq => ?_, by simp only [sum]; omega⟩
    rcases List.mem_cons.mp hq with rfl | hq
    · omega
    · exact g1 q hq
theorem good_facts {l : List Run} (h : good l = true) : pos l ∧ sum l ≤ cap := by
  have := goodFrom_facts (by decide) h
  exact ⟨this.1, by simpa using this.2⟩
def has (l : List Run) (v : Int) : Int := match l.find? (fun r => r.1 == v) with | some r => r.2 | none => 0
theorem encR_len (l : List Run) : ∀ e ∈ l.map encR, e.length = 2 := by
  intro e he
  obtain ⟨r, _, rfl⟩ := List.mem_map.mp he
  rfl
theorem get_enc {l : List Run} {i : Nat} {r : Run} {rest : List Run} (h : l.drop i = r :: rest) : (l.map encR)[i]? = some (encR r) := by
  have : l[i]? = some r := by
    have := congrArg List.head? h
    simpa [List.head?_drop] using this
  simp [this]
theorem get_len {l : List Run} {i : Nat} {r : Run} {rest : List Run} (h : l.drop i = r :: rest) : i < l.length := by
  have := congrArg List.length h
  simp at this
  omega
theorem get_next {l : List Run} {i : Nat} {r : Run} {rest : List Run} (h : l.drop i = r :: rest) : l.drop (i + 1) = rest := by
  have := congrArg List.tail h
  simpa [List.tail_drop] using this
theorem get_end {l : List Run} {i : Nat} (h : l.drop i = []) (hi : i ≤ l.length) : i = l.length := by
  have := List.drop_eq_nil_iff.mp h
  omega
def wsum : List Run → Int
  | [] => 0
  | r :: l => r.1 * r.2 + wsum l
def ranged (l : List Run) : Prop := ∀ r ∈ l, (-9223372036854775808 ≤ r.1 ∧ r.1 ≤ 9223372036854775807) ∧ (-9223372036854775808 ≤ r.2 ∧ r.2 ≤ 9223372036854775807)
theorem mul_bound {a n : Int} (h : -9223372036854775808 ≤ a ∧ a ≤ 9223372036854775807) (hn : 0 ≤ n) : -(9223372036854775808 * n) ≤ a * n ∧ a * n ≤ 9223372036854775808 * n := by
  have h1 : a * n ≤ 9223372036854775808 * n := Int.mul_le_mul_of_nonneg_right (by omega) hn
  have h2 : (-9223372036854775808) * n ≤ a * n := Int.mul_le_mul_of_nonneg_right (by omega) hn
  omega
theorem wsum_bound : ∀ {l : List Run}, pos l → ranged l → -(9223372036854775808 * sum l) ≤ wsum l ∧ wsum l ≤ 9223372036854775808 * sum l
  | [], _, _ => by simp [wsum, sum]
  | r :: l, h, hr => by
    have h1 := h r (by simp)
    have h2 := wsum_bound (l := l) (fun q hq => h q (by simp [hq])) (fun q hq => hr q (by simp [hq]))
    have h3 := mul_bound (hr r (by simp)).1 (show 0 ≤ r.2 by omega)
    simp only [wsum, sum]
    omega
end Go.Bag
/-
  BAGS, PLAIN, the second part. My own work.
-/
namespace Go.Bag
open Go.Pl
def encE (l : List Run) : List (List CV) := l.map encR
def moreL (l : List Run) (v n : Int) : List Run :=
  match l.getLast? with
  | some r => if r.1 = v then l.dropLast ++ [(r.1, r.2 + n)] else l ++ [(v, n)]
  | none => [(v, n)]
theorem moreL_nil (v n : Int) : moreL [] v n = [(v, n)] := rfl
theorem moreL_eq (l : List Run) (r : Run) (n : Int) : moreL (l ++ [r]) r.1 n = l ++ [(r.1, r.2 + n)] := by simp [moreL]
theorem moreL_ne (l : List Run) (r : Run) (v n : Int) (h : r.1 ≠ v) : moreL (l ++ [r]) v n = l ++ [r] ++ [(v, n)] := by simp [moreL, h]
theorem snoc_cases (l : List Run) : l = [] ∨ ∃ k r, l = k ++ [r] := by
  rcases List.eq_nil_or_concat l with h | ⟨k, r, h⟩
  · exact .inl h
  · exact .inr ⟨k, r, by simpa using h⟩
theorem sum_append : ∀ (l k : List Run), sum (l ++ k) = sum l + sum k
  | [], k => by simp [sum]
  | r :: l, k => by simp only [List.cons_append, sum, sum_append l k]; omega
theorem moreL_sum (l : List Run) (v n : Int) : sum (moreL l v n) = sum l + n := by
  rcases snoc_cases l with rfl | ⟨k, r, rfl⟩
  · simp [moreL_nil, sum]
  · by_cases hv : r.1 = v
    · subst hv; rw [moreL_eq, sum_append, sum_append]; simp only [sum]; omega
    · rw [moreL_ne _ _ _ _ hv, sum_append]; simp only [sum]; omega
theorem moreL_len (l : List Run) (v n : Int) : (moreL l v n).length ≤ l.length + 1 := by
  rcases snoc_cases l with rfl | ⟨k, r, rfl⟩
  · simp [moreL_nil]
  · by_cases hv : r.1 = v
    · subst hv; rw [moreL_eq]; simp
    · rw [moreL_ne _ _ _ _ hv]; simp
theorem moreL_pos {l : List Run} {v n : Int} (h : pos l) (hn : 1 ≤ n) : pos (moreL l v n) := by
  rcases snoc_cases l with rfl | ⟨k, r, rfl⟩
  · intro q hq; simp [moreL_nil] at hq; subst hq; exact hn
  · have hr := h r (by simp)
    by_cases hv : r.1 = v
    · subst hv; rw [moreL_eq]
      intro q hq
      rcases List.mem_append.mp hq with hq | hq
      · exact h q (by simp [hq])
      · simp at hq; subst hq; show 1 ≤ r.2 + n; omega
    · rw [moreL_ne _ _ _ _ hv]
      intro q hq
      rcases List.mem_append.mp hq with hq | hq
      · exact h q hq
      · simp at hq; subst hq; exact hn
theorem le_sum : ∀ {l : List Run}, pos l → ∀ q ∈ l, 1 ≤ q.2 ∧ q.2 ≤ sum l
  | [], _, q, hq => by simp at hq
  | r :: l, h, q, hq => by
    have hp : pos l := fun q hq => h q (by simp [hq])
    have h0 := sum_nonneg hp
    have h1 := h r (by simp)
    rcases List.mem_cons.mp hq with rfl | hq
    · simp only [sum]; omega
    · have := le_sum hp q hq
      simp only [sum]; omega
def merge : List Run → List Run → List Run → List Run
  | out, [], [] => out
  | out, [], s :: b => merge (moreL out s.1 s.2) [] b
  | out, r :: a, [] => merge (moreL out r.1 r.2) a []
  | out, r :: a, s :: b => if s.1 < r.1 then merge (moreL out s.1 s.2) (r :: a) b else merge (moreL out r.1 r.2) a (s :: b)
termination_by _ a b => a.length + b.length
def join (a b : List Run) : List Run × Bool := if good a = true ∧ good b = true ∧ sum a ≤ 1099511627776 - sum b then (merge [] a b, true) else ([], false)
end Go.Bag
/-
  BAGS, PLAIN, the third part: one without the other. My own work.
-/
namespace Go.Bag
open Go.Pl
def takeB (r : Run) (b : List Run) : Int × List Run :=
  match b with
  | s :: b' => if s.1 = r.1 then (r.2 - s.2, b') else (r.2, s :: b')
  | [] => (r.2, [])
def minusL : List Run → List Run → List Run → Option (List Run × List Run)
  | out, [], b => some (out, b)
  | out, r :: a, b => if (takeB r b).1 < 0 then none else minusL (if 0 < (takeB r b).1 then out ++ [(r.1, (takeB r b).1)] else out) a (takeB r b).2
def minus (a b : List Run) : List Run × Bool :=
  if good a = true ∧ good b = true then (match minusL [] a b with | some (o, []) => (o, true) | _ => ([], false)) else ([], false)
end Go.Bag
/-
  BAGS, PLAIN, the fourth part: the document's laying of a value. My own work.
-/
namespace Go.Bag
open Go.Pl
def keepR (x : Run) : List Run := if x.2 ≠ 0 then [x] else []
def layB (v n : Int) : Bool → List Run → List Run × Bool
  | d, [] => ([], d)
  | d, x :: l =>
    if d = false ∧ v ≤ x.1 then
      (if v < x.1 then ([(v, n)] ++ (keepR x ++ (layB v n true l).1), (layB v n true l).2)
       else (keepR (x.1, x.2 + n) ++ (layB v n true l).1, (layB v n true l).2))
    else (keepR x ++ (layB v n d l).1, (layB v n d l).2)
def lay (l : List Run) (v n : Int) : List Run := if (layB v n false l).2 then (layB v n false l).1 else (layB v n false l).1 ++ [(v, n)]
end Go.Bag
/-
  BAGS, PLAIN, the fifth part: what the functions compute is true. A bag is told by how often each value is there. My own work.
-/
namespace Go.Bag
open Go.Pl
def asc (l : List Run) : Prop := l.Pairwise fun r s => r.1 < s.1
def cnt : List Run → Int → Int
  | [], _ => 0
  | r :: l, v => (if r.1 = v then r.2 else 0) + cnt l v
theorem cnt_append : ∀ (l k : List Run) (v : Int), cnt (l ++ k) v = cnt l v + cnt k v
  | [], k, v => by simp [cnt]
  | r :: l, k, v => by simp only [List.cons_append, cnt, cnt_append l k v]; omega
theorem cnt_none : ∀ {l : List Run} {v : Int}, (∀ r ∈ l, r.1 ≠ v) → cnt l v = 0
  | [], _, _ => rfl
  | r :: l, v, h => by simp [cnt, h r (by simp), cnt_none (l := l) (v := v) fun q hq => h q (by simp [hq])]
theorem cnt_nonneg : ∀ {l : List Run} (v : Int), pos l → 0 ≤ cnt l v
  | [], _, _ => by simp [cnt]
  | r :: l, v, h => by
    have := h r (by simp)
    have := cnt_nonneg (l := l) v fun q hq => h q (by simp [hq])
    simp only [cnt]; split <;> omega
theorem cnt_pos : ∀ {l : List Run} {r : Run}, pos l → r ∈ l → r.2 ≤ cnt l r.1
  | [], r, _, hr => by simp at hr
  | q :: l, r, h, hr => by
    have hp : pos l := fun q hq => h q (by simp [hq])
    have h1 := h q (by simp)
    rcases List.mem_cons.mp hr with rfl | hr
    · have := cnt_nonneg r.1 hp
      simp only [cnt, if_true]; omega
    · have := cnt_pos hp hr
      simp only [cnt]; split <;> omega
theorem asc_cons {r : Run} {l : List Run} : asc (r :: l) ↔ (∀ q ∈ l, r.1 < q.1) ∧ asc l := by simp [asc]
theorem ext : ∀ {a b : List Run}, asc a → asc b → pos a → pos b → (∀ v, cnt a v = cnt b v) → a = b
  | [], [], _, _, _, _, _ => rfl
  | [], s :: b, _, _, _, hb, h => by
    have := cnt_pos hb (r := s) (by simp)
    have h1 := h s.1
    have := hb s (by simp)
    simp only [cnt] at h1 this
    simp only [cnt] at *
    omega
  | r :: a, [], _, _, ha, _, h => by
    have := cnt_pos ha (r := r) (by simp)
    have h1 := h r.1
    have := ha r (by simp)
    simp only [cnt] at *
    omega
  | r :: a, s :: b, ra, sb, ha, hb, h => by
    obtain ⟨h1, h2⟩ := asc_cons.mp ra
    obtain ⟨h3, h4⟩ := asc_cons.mp sb
    have pr := ha r (by simp)
    have ps := hb s (by simp)
    have pa : pos a := fun q hq => ha q (by simp [hq])
    have pb : pos b := fun q hq => hb q (by simp [hq])
    have e : r.1 = s.1 := by
      rcases Int.lt_trichotomy r.1 s.1 with hlt | he | hlt
      · have := h r.1
        have z1 : cnt (s :: b) r.1 = 0 := cnt_none fun q hq => by
          rcases List.mem_cons.mp hq with rfl | hq
          · omega
          · have := h3 q hq; omega
        have := cnt_pos ha (r := r) (by simp)
        omega
      · exact he
      · have := h s.1
        have z1 : cnt (r :: a) s.1 = 0 := cnt_none fun q hq => by
          rcases List.mem_cons.mp hq with rfl | hq
          · omega
          · have := h1 q hq; omega
        have := cnt_pos hb (r := s) (by simp)
        omega
    have ea : cnt a r.1 = 0 := cnt_none fun q hq => by have := h1 q hq; omega
    have eb : cnt b s.1 = 0 := cnt_none fun q hq => by have := h3 q hq; omega
    have e2 : r.2 = s.2 := by
      have := h r.1
      simp only [cnt, e, if_true] at this
      rw [e] at ea
      omega
    have er : r = s := Prod.ext e e2
    subst er
    rw [ext (a := a) (b := b) h2 h4 pa pb fun v => by
      have := h v
      simp only [cnt] at this
      omega]
/-! ### may be -/
theorem goodFrom_asc : ∀ {l : List Run} {p : Option Int} {s : Int}, goodFrom p s l = true → asc l ∧ ∀ a, p = some a → ∀ r ∈ l, a < r.1
  | [], p, s, _ => ⟨by simp [asc], fun a _ r hr => by simp at hr⟩
  | r :: l, p, s, h => by
    simp only [goodFrom, Bool.and_eq_true, Bool.not_eq_true', decide_eq_false_iff_not] at h
    obtain ⟨⟨⟨h0, h1⟩, h2⟩, h3⟩ := h
    obtain ⟨g1, g2⟩ := goodFrom_asc h3
    refine ⟨asc_cons.mpr ⟨g2 r.1 rfl, g1⟩, fun a ha q hq => ?_⟩
    subst ha
    have h0' : a < r.1 := by simpa using h0
    rcases List.mem_cons.mp hq with rfl | hq
    · exact h0'
    · have := g2 r.1 rfl q hq; omega
theorem goodFrom_mk : ∀ {l : List Run} {p : Option Int} {s : Int}, asc l → pos l → s + sum l ≤ cap → (∀ a, p = some a → ∀ r ∈ l, a < r.1) → goodFrom p s l = true
  | [], _, _, _, _, _, _ => rfl
  | r :: l, p, s, ha, hp, hs, hf => by
    obtain ⟨h1, h2⟩ := asc_cons.mp ha
    have hpl : pos l := fun q hq => hp q (by simp [hq])
    have := sum_nonneg hpl
    have h3 := hp r (by simp)
    simp only [sum] at hs
    have h4 : (p.any fun a => decide (r.1 ≤ a)) = false := by
      cases p with
      | none => rfl
      | some a =>
        have := hf a rfl r (by simp)
        simp; omega
    simp only [goodFrom, h4, Bool.not_false, Bool.true_and, Bool.and_eq_true, Bool.not_eq_true', decide_eq_false_iff_not]
    refine ⟨⟨by omega, by omega⟩, goodFrom_mk h2 hpl (by omega) fun a ha q hq => ?_⟩
    cases ha
    exact h1 q hq
theorem good_iff {l : List Run} : good l = true ↔ asc l ∧ pos l ∧ sum l ≤ cap := by
  constructor
  · intro h
    exact ⟨(goodFrom_asc h).1, good_facts h⟩
  · intro ⟨h1, h2, h3⟩
    exact goodFrom_mk h1 h2 (by simpa using h3) fun a ha => by cases ha
theorem has_cnt : ∀ {l : List Run} (v : Int), asc l → has l v = cnt l v
  | [], v, _ => by simp [has, cnt]
  | r :: l, v, h => by
    obtain ⟨h1, h2⟩ := asc_cons.mp h
    have ih := has_cnt (l := l) v h2
    by_cases e : r.1 = v
    · have : cnt l v = 0 := cnt_none fun q hq => by have := h1 q hq; omega
      simp [has, cnt, e, this]
    · simp only [has, List.find?_cons] at ih ⊢
      have : (r.1 == v) = false := by simpa using e
      simp only [this, cnt, if_neg e, ih]; omega
/-! ### a value more -/
def upto (v : Int) (l : List Run) : Prop := ∀ r ∈ l, r.1 ≤ v
theorem moreL_cnt (l : List Run) (v n u : Int) : cnt (moreL l v n) u = cnt l u + if v = u then n else 0 := by
  rcases snoc_cases l with rfl | ⟨k, r, rfl⟩
  · simp [moreL_nil, cnt]
  · by_cases hv : r.1 = v
    · subst hv; rw [moreL_eq, cnt_append, cnt_append]; simp only [cnt]; split <;> omega
    · rw [moreL_ne _ _ _ _ hv, cnt_append]; simp only [cnt]; omega
theorem asc_snoc {l : List Run} {r : Run} : asc (l ++ [r]) ↔ asc l ∧ ∀ q ∈ l, q.1 < r.1 := by
  simp [asc, List.pairwise_append]
theorem moreL_asc {l : List Run} {v n : Int} (h : asc l) (hu : upto v l) : asc (moreL l v n) := by
  rcases snoc_cases l with rfl | ⟨k, r, rfl⟩
  · simp [moreL_nil, asc]
  · by_cases hv : r.1 = v
    · subst hv; rw [moreL_eq]; exact asc_snoc.mpr ⟨(asc_snoc.mp h).1, fun q hq => (asc_snoc.mp h).2 q hq⟩
    · rw [moreL_ne _ _ _ _ hv]
      have h1 := hu r (by simp)
      refine asc_snoc.mpr ⟨h, fun q hq => ?_⟩
      rcases List.mem_append.mp hq with hq | hq
      · have := (asc_snoc.mp h).2 q hq
        show q.1 < v
        omega
      · simp at hq; subst hq; show q.1 < v; omega
theorem moreL_upto {l : List Run} {v n : Int} (hu : upto v l) : upto v (moreL l v n) := by
  rcases snoc_cases l with rfl | ⟨k, r, rfl⟩
  · intro q hq; simp [moreL_nil] at hq; subst hq; exact Int.le_refl _
  · by_cases hv : r.1 = v
    · subst hv; rw [moreL_eq]
      intro q hq
      rcases List.mem_append.mp hq with hq | hq
      · exact hu q (by simp [hq])
      · simp at hq; subst hq; exact Int.le_refl _
    · rw [moreL_ne _ _ _ _ hv]
      intro q hq
      rcases List.mem_append.mp hq with hq | hq
      · exact hu q hq
      · simp at hq; subst hq; exact Int.le_refl _
theorem upto_le {l : List Run} {v u : Int} (h : upto v l) (hv : v ≤ u) : upto u l := fun r hr => by have := h r hr; omega
/-! ### all of two -/
theorem merge_facts : ∀ (m : Nat) (out a b : List Run), a.length + b.length = m → asc out → asc a → asc b → pos out → pos a → pos b → (∀ r ∈ a, upto r.1 out) → (∀ r ∈ b, upto r.1 out) →
    asc (merge out a b) ∧ pos (merge out a b) ∧ (∀ v, cnt (merge out a b) v = cnt out v + cnt a v + cnt b v) ∧ sum (merge out a b) = sum out + sum a + sum b := by
  intro m
  induction m with
  | zero =>
    intro out a b hm ho ha hb po pa pb ua ub
    obtain rfl : a = [] := List.eq_nil_of_length_eq_zero (by omega)
    obtain rfl : b = [] := List.eq_nil_of_length_eq_zero (by omega)
    simp [merge, cnt, sum, ho, po]
  | succ m ih =>
    intro out a b hm ho ha hb po pa pb ua ub
    have tail : ∀ {r : Run} {l : List Run}, asc (r :: l) → pos (r :: l) → asc l ∧ pos l ∧ 1 ≤ r.2 ∧ ∀ q ∈ l, r.1 < q.1 := fun h k =>
      ⟨(asc_cons.mp h).2, fun q hq => k q (by simp [hq]), k _ (by simp), (asc_cons.mp h).1⟩
    match a, b, hm with
    | [], s :: b, hm =>
      obtain ⟨h1, h2, h3, h4⟩ := tail hb pb
      have hu := ub s (by simp)
      have := ih (moreL out s.1 s.2) [] b (by simpa using hm) (moreL_asc ho hu) ha h1 (moreL_pos po h3) pa h2 (fun r hr => by simp at hr)
        (fun r hr => upto_le (moreL_upto hu) (by have := h4 r hr; omega))
      rw [show merge out [] (s :: b) = merge (moreL out s.1 s.2) [] b by simp only [merge]]
      refine ⟨this.1, this.2.1, fun v => ?_, ?_⟩
      · rw [this.2.2.1, moreL_cnt]; simp only [cnt]; omega
      · rw [this.2.2.2, moreL_sum]; simp only [sum]; omega
    | r :: a, [], hm =>
      obtain ⟨h1, h2, h3, h4⟩ := tail ha pa
      have hu := ua r (by simp)
      have := ih (moreL out r.1 r.2) a [] (by simpa using hm) (moreL_asc ho hu) h1 hb (moreL_pos po h3) h2 pb
        (fun q hq => upto_le (moreL_upto hu) (by have := h4 q hq; omega)) (fun r hr => by simp at hr)
      rw [show merge out (r :: a) [] = merge (moreL out r.1 r.2) a [] by simp only [merge]]
      refine ⟨this.1, this.2.1, fun v => ?_, ?_⟩
      · rw [this.2.2.1, moreL_cnt]; simp only [cnt]; omega
      · rw [this.2.2.2, moreL_sum]; simp only [sum]; omega
    | r :: a, s :: b, hm =>
      obtain ⟨h1, h2, h3, h4⟩ := tail ha pa
      obtain ⟨k1, k2, k3, k4⟩ := tail hb pb
      by_cases hlt : s.1 < r.1
      · have hu := ub s (by simp)
        have := ih (moreL out s.1 s.2) (r :: a) b (by simp at hm ⊢; omega) (moreL_asc ho hu) ha k1 (moreL_pos po k3) pa k2
          (fun q hq => upto_le (moreL_upto hu) (by
            rcases List.mem_cons.mp hq with rfl | hq
            · omega
            · have := h4 q hq; omega))
          (fun q hq => upto_le (moreL_upto hu) (by have := k4 q hq; omega))
        rw [show merge out (r :: a) (s :: b) = merge (moreL out s.1 s.2) (r :: a) b by rw [merge]; simp [hlt]]
        refine ⟨this.1, this.2.1, fun v => ?_, ?_⟩
        · rw [this.2.2.1, moreL_cnt]; simp only [cnt]; omega
        · rw [this.2.2.2, moreL_sum]; simp only [sum]; omega
      · have hu := ua r (by simp)
        have := ih (moreL out r.1 r.2) a (s :: b) (by simp at hm ⊢; omega) (moreL_asc ho hu) h1 hb (moreL_pos po h3) h2 pb
          (fun q hq => upto_le (moreL_upto hu) (by have := h4 q hq; omega))
          (fun q hq => upto_le (moreL_upto hu) (by
            rcases List.mem_cons.mp hq with rfl | hq
            · omega
            · have := k4 q hq; omega))
        rw [show merge out (r :: a) (s :: b) = merge (moreL out r.1 r.2) a (s :: b) by rw [merge]; simp [hlt]]
        refine ⟨this.1, this.2.1, fun v => ?_, ?_⟩
        · rw [this.2.2.1, moreL_cnt]; simp only [cnt]; omega
        · rw [this.2.2.2, moreL_sum]; simp only [sum]; omega
/-! ### one without the other -/
theorem minusL_facts : ∀ (a out b o k : List Run), minusL out a b = some (o, k) → asc out → asc a → asc b → pos out → pos a → pos b → (∀ r ∈ a, ∀ q ∈ out, q.1 < r.1) →
    asc o ∧ pos o ∧ (∀ r ∈ k, r ∈ b) ∧ (∀ v, cnt o v + cnt b v = cnt out v + cnt a v + cnt k v)
  | [], out, b, o, k, h, ho, ha, hb, po, pa, pb, hu => by
    simp only [minusL] at h
    obtain ⟨rfl, rfl⟩ := Prod.mk.inj (Option.some.inj h)
    exact ⟨ho, po, fun r hr => hr, fun v => by simp [cnt]⟩
  | r :: a, out, b, o, k, h, ho, ha, hb, po, pa, pb, hu => by
    obtain ⟨h1, h2⟩ := asc_cons.mp ha
    have pa' : pos a := fun q hq => pa q (by simp [hq])
    have pr := pa r (by simp)
    simp only [minusL] at h
    split at h
    · cases h
    · rename_i hge
      -- what is taken of 'b'
      have tk : asc (takeB r b).2 ∧ pos (takeB r b).2 ∧ (∀ q ∈ (takeB r b).2, q ∈ b) ∧ ∀ v, cnt (takeB r b).2 v = cnt b v - if r.1 = v then r.2 - (takeB r b).1 else 0 := by
        cases b with
        | nil => simp [takeB, asc, pos, cnt]
        | cons s b =>
          obtain ⟨k1, k2⟩ := asc_cons.mp hb
          by_cases e : s.1 = r.1
          · simp only [takeB, if_pos e]
            refine ⟨k2, fun q hq => pb q (by simp [hq]), fun q hq => by simp [hq], fun v => ?_⟩
            simp only [cnt, e]; split <;> omega
          · simp only [takeB, if_neg e]
            exact ⟨hb, pb, fun q hq => hq, fun v => by simp⟩
      obtain ⟨t1, t2, t3, t4⟩ := tk
      by_cases hp : 0 < (takeB r b).1
      · rw [if_pos hp] at h
        have hur : ∀ q ∈ out, q.1 < r.1 := hu r (by simp)
        have := minusL_facts a (out ++ [(r.1, (takeB r b).1)]) _ o k h (asc_snoc.mpr ⟨ho, hur⟩) h2 t1
          (fun q hq => by
            rcases List.mem_append.mp hq with hq | hq
            · exact po q hq
            · simp at hq; subst hq; show 1 ≤ (takeB r b).1; omega) pa' t2
          (fun q hq p hp => by
            rcases List.mem_append.mp hp with hp | hp
            · exact hu q (by simp [hq]) p hp
            · simp at hp; subst hp; exact h1 q hq)
        refine ⟨this.1, this.2.1, fun q hq => t3 q (this.2.2.1 q hq), fun v => ?_⟩
        have h5 := this.2.2.2 v
        rw [t4, cnt_append] at h5
        simp only [cnt] at h5 ⊢
        split at h5 <;> simp_all <;> omega
      · rw [if_neg hp] at h
        have h0 : (takeB r b).1 = 0 := by omega
        have := minusL_facts a out _ o k h ho h2 t1 po pa' t2 (fun q hq p hp => hu q (by simp [hq]) p hp)
        refine ⟨this.1, this.2.1, fun q hq => t3 q (this.2.2.1 q hq), fun v => ?_⟩
        have h5 := this.2.2.2 v
        rw [t4, h0] at h5
        simp only [cnt] at h5 ⊢
        split at h5 <;> simp_all <;> omega
def sub (b a : List Run) : Prop := ∀ v, cnt b v ≤ cnt a v
theorem minusL_cons (out : List Run) (r : Run) (a b : List Run) : minusL out (r :: a) b = if (takeB r b).1 < 0 then none else minusL (if 0 < (takeB r b).1 then out ++ [(r.1, (takeB r b).1)] else out) a (takeB r b).2 := by
  simp only [minusL]
theorem minusL_ok : ∀ (a out b : List Run), asc a → asc b → pos a → pos b → sub b a → ∃ o, minusL out a b = some (o, [])
  | [], out, b, ha, hb, pa, pb, h => by
    cases b with
    | nil => exact ⟨out, rfl⟩
    | cons s b =>
      have := h s.1
      have h1 := cnt_pos pb (r := s) (by simp)
      have h2 := pb s (by simp)
      have h3 : cnt [] s.1 = 0 := rfl
      omega
  | r :: a, out, b, ha, hb, pa, pb, h => by
    obtain ⟨h1, h2⟩ := asc_cons.mp ha
    have pa' : pos a := fun q hq => pa q (by simp [hq])
    have ea : cnt a r.1 = 0 := cnt_none fun q hq => by have := h1 q hq; omega
    cases b with
    | nil =>
      have pr := pa r (by simp)
      rw [minusL_cons, show takeB r [] = (r.2, []) from rfl, if_neg (by show ¬ r.2 < 0; omega)]
      exact minusL_ok a _ [] h2 hb pa' pb fun v => by simpa [cnt] using cnt_nonneg v pa'
    | cons s b =>
      obtain ⟨k1, k2⟩ := asc_cons.mp hb
      have pb' : pos b := fun q hq => pb q (by simp [hq])
      have ps := pb s (by simp)
      by_cases e : s.1 = r.1
      · have hs : s.2 ≤ r.2 := by
          have := h s.1
          have eb : cnt b s.1 = 0 := cnt_none fun q hq => by have := k1 q hq; omega
          rw [← e] at ea
          simp only [cnt, ea, eb, e, if_true] at this
          rw [e] at eb ea
          omega
        rw [minusL_cons, show takeB r (s :: b) = (r.2 - s.2, b) by simp [takeB, e], if_neg (by show ¬ r.2 - s.2 < 0; omega)]
        refine minusL_ok a _ b h2 k2 pa' pb' fun v => ?_
        have := h v
        simp only [cnt, e] at this
        by_cases ev : r.1 = v
        · subst ev
          have eb : cnt b r.1 = 0 := cnt_none fun q hq => by have := k1 q hq; omega
          rw [ea, eb]; exact Int.le_refl _
        · simpa [ev] using this
      · have pr := pa r (by simp)
        rw [minusL_cons, show takeB r (s :: b) = (r.2, s :: b) by simp [takeB, e], if_neg (by show ¬ r.2 < 0; omega)]
        refine minusL_ok a _ (s :: b) h2 hb pa' pb fun v => ?_
        have := h v
        by_cases ev : r.1 = v
        · subst ev
          -- 's' is above 'r', or it is not there at all
          have hlt : r.1 < s.1 := by
            rcases Int.lt_or_le r.1 s.1 with h5 | h5
            · exact h5
            · exfalso
              have z : cnt (r :: a) s.1 = 0 := cnt_none fun q hq => by
                rcases List.mem_cons.mp hq with rfl | hq
                · omega
                · have := h1 q hq; omega
              have := h s.1
              have := cnt_pos pb (r := s) (by simp)
              omega
          have z : cnt (s :: b) r.1 = 0 := cnt_none fun q hq => by
            rcases List.mem_cons.mp hq with rfl | hq
            · omega
            · have := k1 q hq; omega
          rw [z]; exact cnt_nonneg _ pa'
        · simpa [cnt, ev] using this
theorem minus_facts {a b : List Run} (ga : good a = true) (gb : good b = true) (h : sub b a) : ∃ o, minus a b = (o, true) ∧ asc o ∧ pos o ∧ ∀ v, cnt o v = cnt a v - cnt b v := by
  obtain ⟨a1, a2, a3⟩ := good_iff.mp ga
  obtain ⟨b1, b2, b3⟩ := good_iff.mp gb
  obtain ⟨o, ho⟩ := minusL_ok a [] b a1 b1 a2 b2 h
  have := minusL_facts a [] b o [] ho (by simp [asc]) a1 b1 (fun q hq => by simp at hq) a2 b2 (fun r _ q hq => by simp at hq)
  refine ⟨o, by simp [minus, ga, gb, ho], this.1, this.2.1, fun v => ?_⟩
  have := this.2.2.2 v
  simp only [cnt] at this
  omega
theorem minus_no {a b : List Run} (h : ¬ sub b a) : minus a b = ([], false) := by
  unfold minus
  split
  · rename_i hg
    obtain ⟨a1, a2, a3⟩ := good_iff.mp hg.1
    obtain ⟨b1, b2, b3⟩ := good_iff.mp hg.2
    split
    · rename_i o ho
      have := minusL_facts a [] b o [] ho (by simp [asc]) a1 b1 (fun q hq => by simp at hq) a2 b2 (fun r _ q hq => by simp at hq)
      exact absurd (fun v => by
        have h1 := this.2.2.2 v
        have h2 := cnt_nonneg v this.2.1
        simp only [cnt] at h1
        omega) h
    · rfl
  · rfl
/-! ### the bag of values -/
def ofS : List Run → List Int → List Run
  | out, [] => out
  | out, v :: l => ofS (moreL out v 1) l
def srt (l : List Int) : List Int := l.mergeSort fun x y => decide (x ≤ y)
def ofL (l : List Int) : List Run := ofS [] (srt l)
def num (l : List Int) (v : Int) : Int := (l.count v : Nat)
theorem num_nil (v : Int) : num [] v = 0 := rfl
theorem num_cons (x : Int) (l : List Int) (v : Int) : num (x :: l) v = num l v + if x = v then 1 else 0 := by
  simp only [num, List.count_cons]
  by_cases h : x = v
  · simp [h]
  · simp [h]
theorem ofS_facts : ∀ (l : List Int) (out : List Run), l.Pairwise (· ≤ ·) → asc out → pos out → (∀ v ∈ l, upto v out) →
    asc (ofS out l) ∧ pos (ofS out l) ∧ (∀ v, cnt (ofS out l) v = cnt out v + num l v) ∧ sum (ofS out l) = sum out + l.length ∧ (ofS out l).length ≤ out.length + l.length
  | [], out, _, ho, po, _ => by simp [ofS, ho, po, num_nil]
  | x :: l, out, hs, ho, po, hu => by
    obtain ⟨h1, h2⟩ := List.pairwise_cons.mp hs
    have hx := hu x (by simp)
    have := ofS_facts l (moreL out x 1) h2 (moreL_asc ho hx) (moreL_pos po (Int.le_refl _)) (fun v hv => upto_le (moreL_upto hx) (h1 v hv))
    refine ⟨this.1, this.2.1, fun v => ?_, ?_, ?_⟩
    · rw [ofS, this.2.2.1, moreL_cnt, num_cons]; omega
    · rw [ofS, this.2.2.2.1, moreL_sum]; simp; omega
    · have := this.2.2.2.2
      have := moreL_len out x 1
      rw [ofS]; simp only [List.length_cons]; omega
theorem srt_perm (l : List Int) : (srt l).Perm l := List.mergeSort_perm _ _
theorem srt_sorted (l : List Int) : (srt l).Pairwise (· ≤ ·) := by
  have := List.pairwise_mergeSort (le := fun x y : Int => decide (x ≤ y)) (fun a b c h1 h2 => by simp at *; omega) (fun a b => by simp; omega) l
  simpa [srt] using this
theorem ofL_facts (l : List Int) : asc (ofL l) ∧ pos (ofL l) ∧ (∀ v, cnt (ofL l) v = num l v) ∧ sum (ofL l) = l.length ∧ (ofL l).length ≤ l.length := by
  have := ofS_facts (srt l) [] (srt_sorted l) (by simp [asc]) (fun q hq => by simp at hq) (fun v _ q hq => by simp at hq)
  have hl := (srt_perm l).length_eq
  refine ⟨this.1, this.2.1, fun v => ?_, ?_, ?_⟩
  · rw [ofL, this.2.2.1]
    simp only [cnt, num, (srt_perm l).count_eq]; omega
  · rw [ofL, this.2.2.2.1, hl]; simp [sum]
  · have := this.2.2.2.2
    rw [hl] at this; simpa [ofL] using this
theorem good_ofL {l : List Int} (h : l.length ≤ 1000000) : good (ofL l) = true := by
  obtain ⟨h1, h2, _, h4, _⟩ := ofL_facts l
  exact good_iff.mpr ⟨h1, h2, by rw [h4]; simp [cap]; omega⟩
theorem ofL_ext {b : List Run} {l : List Int} (h1 : asc b) (h2 : pos b) (h : ∀ v, cnt b v = num l v) : b = ofL l := by
  obtain ⟨g1, g2, g3, _⟩ := ofL_facts l
  exact ext h1 g1 h2 g2 fun v => by rw [h, g3]
/-! ### the ends -/
theorem mem_of_cnt : ∀ {l : List Run} {v : Int}, cnt l v ≠ 0 → ∃ r ∈ l, r.1 = v
  | [], v, h => by simp [cnt] at h
  | r :: l, v, h => by
    by_cases e : r.1 = v
    · exact ⟨r, by simp, e⟩
    · simp only [cnt, if_neg e, Int.zero_add] at h
      obtain ⟨q, hq, he⟩ := mem_of_cnt h
      exact ⟨q, by simp [hq], he⟩
theorem num_pos {l : List Int} {v : Int} : 0 < num l v ↔ v ∈ l := by
  simp only [num]
  rw [← List.count_pos_iff]
  omega
theorem ofL_mem {l : List Int} {r : Run} (h : r ∈ ofL l) : r.1 ∈ l := by
  obtain ⟨h1, h2, h3, _⟩ := ofL_facts l
  have := cnt_pos h2 h
  have := h2 r h
  exact num_pos.mp (by rw [← h3]; omega)
end Go.Bag
/-
  BAGS, PLAIN, the sixth part: the ends of a bag of values. My own work.
-/
namespace Go.Bag
open Go.Pl
end Go.Bag
/-
  BAGS, PLAIN, the seventh part: bags of values joined, taken away, summed. My own work.
-/
namespace Go.Bag
open Go.Pl
theorem join_ok {a b : List Run} (ga : good a = true) (gb : good b = true) (h : sum a + sum b ≤ cap) : ∃ o, join a b = (o, true) ∧ good o = true ∧ sum o = sum a + sum b ∧ ∀ v, cnt o v = cnt a v + cnt b v := by
  obtain ⟨a1, a2, a3⟩ := good_iff.mp ga
  obtain ⟨b1, b2, b3⟩ := good_iff.mp gb
  have h0 : cap = 1099511627776 := rfl
  obtain ⟨m1, m2, m3, m4⟩ := merge_facts _ [] a b rfl (by simp [asc]) a1 b1 (fun q hq => by simp at hq) a2 b2 (fun r _ q hq => by simp at hq) (fun r _ q hq => by simp at hq)
  have m5 : sum (merge [] a b) = sum a + sum b := by rw [m4]; simp [sum]
  refine ⟨merge [] a b, ?_, good_iff.mpr ⟨m1, m2, by omega⟩, m5, fun v => by rw [m3]; simp [cnt]⟩
  unfold join
  rw [if_pos ⟨ga, gb, by omega⟩]
theorem join_no {a b : List Run} (h : ¬ (good a = true ∧ good b = true ∧ sum a + sum b ≤ cap)) : join a b = ([], false) := by
  have h0 : cap = 1099511627776 := rfl
  unfold join
  rw [if_neg fun h' => h ⟨h'.1, h'.2.1, by omega⟩]
/-! ### sums -/
theorem wsum_append : ∀ (l k : List Run), wsum (l ++ k) = wsum l + wsum k
  | [], k => by simp [wsum]
  | r :: l, k => by simp only [List.cons_append, wsum, wsum_append l k]; omega
theorem wsum_moreL (l : List Run) (v n : Int) : wsum (moreL l v n) = wsum l + v * n := by
  rcases snoc_cases l with rfl | ⟨k, r, rfl⟩
  · simp [moreL_nil, wsum]
  · by_cases hv : r.1 = v
    · subst hv; rw [moreL_eq, wsum_append, wsum_append]; simp only [wsum, Int.mul_add]; omega
    · rw [moreL_ne _ _ _ _ hv, wsum_append]; simp only [wsum]; omega
def sumI : List Int → Int
  | [] => 0
  | a :: l => a + sumI l
theorem wsum_ofS : ∀ (l : List Int) (out : List Run), wsum (ofS out l) = wsum out + sumI l
  | [], out => by simp [ofS, sumI]
  | x :: l, out => by rw [ofS, wsum_ofS l, wsum_moreL]; simp only [sumI]; omega
theorem sumI_perm {a b : List Int} (h : a.Perm b) : sumI a = sumI b := by
  induction h with
  | nil => rfl
  | cons x _ ih => simp only [sumI, ih]
  | swap x y l => simp only [sumI]; omega
  | trans _ _ h1 h2 => rw [h1, h2]
theorem wsum_ofL (l : List Int) : wsum (ofL l) = sumI l := by
  rw [ofL, wsum_ofS, sumI_perm (srt_perm l)]; simp [wsum]
theorem ranged_ofL {l : List Int} (h : ∀ a ∈ l, -9223372036854775808 ≤ a ∧ a ≤ 9223372036854775807) (hl : l.length ≤ 1000000) : ranged (ofL l) := by
  obtain ⟨h1, h2, h3, h4, _⟩ := ofL_facts l
  intro r hr
  have := le_sum h2 r hr
  refine ⟨h r.1 (ofL_mem hr), by omega, by omega⟩
end Go.Bag
/-
  BAGS, PLAIN, the eighth part: the document's laying of values comes to the same bags. My own work.
-/
namespace Go.Bag
open Go.Pl
theorem asc_cnt : ∀ {l : List Run} {r : Run}, asc l → r ∈ l → cnt l r.1 = r.2
  | [], r, _, hr => by simp at hr
  | q :: l, r, h, hr => by
    obtain ⟨h1, h2⟩ := asc_cons.mp h
    rcases List.mem_cons.mp hr with rfl | hr
    · have : cnt l r.1 = 0 := cnt_none fun p hp => by have := h1 p hp; omega
      simp [cnt, this]
    · have h3 := h1 r hr
      simp only [cnt, if_neg (show ¬ q.1 = r.1 by omega), asc_cnt h2 hr]; omega
theorem mem_keepR {x q : Run} (h : q ∈ keepR x) : q = x ∧ x.2 ≠ 0 := by
  unfold keepR at h
  split at h
  · simp at h; exact ⟨h, by assumption⟩
  · simp at h
theorem cnt_keepR (x : Run) (u : Int) : cnt (keepR x) u = if x.1 = u then x.2 else 0 := by
  unfold keepR
  by_cases h : x.2 = 0
  · simp [h, cnt]
  · simp [h, cnt]
theorem sum_keepR (x : Run) : sum (keepR x) = x.2 := by
  unfold keepR
  by_cases h : x.2 = 0
  · simp [h, sum]
  · simp [h, sum]
theorem len_keepR (x : Run) : (keepR x).length ≤ 1 := by unfold keepR; split <;> simp
theorem asc_keepR {x : Run} {l : List Run} (h : asc l) (hx : ∀ q ∈ l, x.1 < q.1) : asc (keepR x ++ l) := by
  unfold keepR
  split
  · exact asc_cons.mpr ⟨hx, h⟩
  · exact h
theorem layB_true (v n : Int) : ∀ (l : List Run), (layB v n true l).2 = true ∧ (∀ u, cnt (layB v n true l).1 u = cnt l u) ∧ sum (layB v n true l).1 = sum l ∧ (layB v n true l).1.length ≤ l.length ∧
    (∀ q ∈ (layB v n true l).1, q ∈ l ∧ q.2 ≠ 0) ∧ (asc l → asc (layB v n true l).1)
  | [] => by simp [layB]
  | x :: l => by
    obtain ⟨h1, h2, h3, h4, h5, h6⟩ := layB_true v n l
    have e : layB v n true (x :: l) = (keepR x ++ (layB v n true l).1, (layB v n true l).2) := by simp [layB]
    rw [e]
    refine ⟨h1, fun u => ?_, ?_, ?_, fun q hq => ?_, fun h => ?_⟩
    · rw [cnt_append, cnt_keepR, h2]; rfl
    · rw [sum_append, sum_keepR, h3]; rfl
    · have := len_keepR x; simp only [List.length_append, List.length_cons]; omega
    · rcases List.mem_append.mp hq with hq | hq
      · obtain ⟨rfl, hz⟩ := mem_keepR hq; exact ⟨by simp, hz⟩
      · exact ⟨List.mem_cons_of_mem _ (h5 q hq).1, (h5 q hq).2⟩
    · obtain ⟨g1, g2⟩ := asc_cons.mp h
      exact asc_keepR (h6 g2) fun q hq => g1 q (h5 q hq).1
theorem layB_false (v n : Int) : ∀ (l : List Run), (∀ u, cnt (layB v n false l).1 u + (if (layB v n false l).2 then 0 else if v = u then n else 0) = cnt l u + if v = u then n else 0) ∧
    sum (layB v n false l).1 + (if (layB v n false l).2 then 0 else n) = sum l + n ∧ (layB v n false l).1.length + (if (layB v n false l).2 then 0 else 1) ≤ l.length + 1 ∧
    (n ≠ 0 → ∀ q ∈ (layB v n false l).1, q.2 ≠ 0) ∧ (∀ q ∈ (layB v n false l).1, q.1 = v ∨ ∃ r ∈ l, q.1 = r.1) ∧
    ((layB v n false l).2 = false → (∀ r ∈ l, r.1 < v) ∧ ∀ q ∈ (layB v n false l).1, q ∈ l) ∧ (asc l → asc (layB v n false l).1)
  | [] => by simp [layB, cnt, sum, asc]
  | x :: l => by
    obtain ⟨t1, t2, t3, t4, t5, t6⟩ := layB_true v n l
    obtain ⟨f1, f2, f3, f4, f5, f6, f7⟩ := layB_false v n l
    by_cases hv : v ≤ x.1
    · by_cases hlt : v < x.1
      · have e : layB v n false (x :: l) = ([(v, n)] ++ (keepR x ++ (layB v n true l).1), (layB v n true l).2) := by simp [layB, hv, hlt]
        rw [e, t1]
        refine ⟨fun u => ?_, ?_, ?_, fun hn q hq => ?_, fun q hq => ?_, (fun h => by cases h), fun h => ?_⟩
        · rw [cnt_append, cnt_append, cnt_keepR, t2]; simp only [cnt, if_true]; omega
        · rw [sum_append, sum_append, sum_keepR, t3]; simp only [sum, if_true]; omega
        · have := len_keepR x; simp only [List.length_append, List.length_cons, List.length_nil, if_true]; omega
        · rcases List.mem_append.mp hq with hq | hq
          · simp at hq; subst hq; exact hn
          · rcases List.mem_append.mp hq with hq | hq
            · obtain ⟨rfl, hz⟩ := mem_keepR hq; exact hz
            · exact (t5 q hq).2
        · rcases List.mem_append.mp hq with hq | hq
          · simp at hq; subst hq; exact .inl rfl
          · rcases List.mem_append.mp hq with hq | hq
            · obtain ⟨rfl, hz⟩ := mem_keepR hq; exact .inr ⟨q, by simp, rfl⟩
            · exact .inr ⟨q, List.mem_cons_of_mem _ (t5 q hq).1, rfl⟩
        · obtain ⟨g1, g2⟩ := asc_cons.mp h
          refine asc_cons.mpr ⟨fun q hq => ?_, asc_keepR (t6 g2) fun q hq => g1 q (t5 q hq).1⟩
          have hq : q ∈ keepR x ++ (layB v n true l).1 := hq
          rcases List.mem_append.mp hq with hq | hq
          · obtain ⟨rfl, hz⟩ := mem_keepR hq; exact hlt
          · have := g1 q (t5 q hq).1; show v < q.1; omega
      · have hx : x.1 = v := by omega
        have e : layB v n false (x :: l) = (keepR (x.1, x.2 + n) ++ (layB v n true l).1, (layB v n true l).2) := by simp [layB, hv, hlt]
        rw [e, t1]
        refine ⟨fun u => ?_, ?_, ?_, fun hn q hq => ?_, fun q hq => ?_, (fun h => by cases h), fun h => ?_⟩
        · rw [cnt_append, cnt_keepR, t2]; simp only [cnt, if_true, hx]; split <;> omega
        · rw [sum_append, sum_keepR, t3]; simp only [sum, if_true]; omega
        · have := len_keepR (x.1, x.2 + n); simp only [List.length_append, List.length_cons, if_true]; omega
        · rcases List.mem_append.mp hq with hq | hq
          · obtain ⟨rfl, hz⟩ := mem_keepR hq; exact hz
          · exact (t5 q hq).2
        · rcases List.mem_append.mp hq with hq | hq
          · obtain ⟨rfl, hz⟩ := mem_keepR hq; exact .inl hx
          · exact .inr ⟨q, List.mem_cons_of_mem _ (t5 q hq).1, rfl⟩
        · obtain ⟨g1, g2⟩ := asc_cons.mp h
          exact asc_keepR (t6 g2) fun q hq => g1 q (t5 q hq).1
    · have e : layB v n false (x :: l) = (keepR x ++ (layB v n false l).1, (layB v n false l).2) := by simp [layB, hv]
      rw [e]
      refine ⟨fun u => ?_, ?_, ?_, fun hn q hq => ?_, fun q hq => ?_, fun h => ⟨fun r hr => ?_, fun q hq => ?_⟩, fun h => ?_⟩
      · have := f1 u
        rw [cnt_append, cnt_keepR]; simp only [cnt]; omega
      · rw [sum_append, sum_keepR]; simp only [sum]; omega
      · have := len_keepR x; simp only [List.length_append, List.length_cons]; omega
      · rcases List.mem_append.mp hq with hq | hq
        · obtain ⟨rfl, hz⟩ := mem_keepR hq; exact hz
        · exact f4 hn q hq
      · rcases List.mem_append.mp hq with hq | hq
        · obtain ⟨rfl, hz⟩ := mem_keepR hq; exact .inr ⟨q, by simp, rfl⟩
        · rcases f5 q hq with h | ⟨r, hr, h⟩
          · exact .inl h
          · exact .inr ⟨r, List.mem_cons_of_mem _ hr, h⟩
      · rcases List.mem_cons.mp hr with rfl | hr
        · omega
        · exact (f6 h).1 r hr
      · rcases List.mem_append.mp hq with hq | hq
        · obtain ⟨rfl, hz⟩ := mem_keepR hq; simp
        · exact List.mem_cons_of_mem _ ((f6 h).2 q hq)
      · obtain ⟨g1, g2⟩ := asc_cons.mp h
        refine asc_keepR (f7 g2) fun q hq => ?_
        rcases f5 q hq with h | ⟨r, hr, h⟩
        · omega
        · have := g1 r hr; omega
theorem lay_facts (l : List Run) (v n : Int) : (∀ u, cnt (lay l v n) u = cnt l u + if v = u then n else 0) ∧ sum (lay l v n) = sum l + n ∧ (lay l v n).length ≤ l.length + 1 ∧ (n ≠ 0 → ∀ q ∈ lay l v n, q.2 ≠ 0) ∧ (asc l → asc (lay l v n)) := by
  obtain ⟨f1, f2, f3, f4, f5, f6, f7⟩ := layB_false v n l
  unfold lay
  cases hd : (layB v n false l).2 with
  | true =>
    simp only [hd, if_true] at *
    exact ⟨fun u => by have := f1 u; omega, by omega, by omega, f4, f7⟩
  | false =>
    simp only [hd, Bool.false_eq_true, if_false] at *
    refine ⟨fun u => ?_, ?_, ?_, fun hn q hq => ?_, fun h => ?_⟩
    · have := f1 u
      rw [cnt_append]; simp only [cnt]; omega
    · rw [sum_append]; simp only [sum]; omega
    · simp only [List.length_append, List.length_cons, List.length_nil]; omega
    · rcases List.mem_append.mp hq with hq | hq
      · exact f4 hn q hq
      · simp at hq; subst hq; exact hn
    · refine asc_snoc.mpr ⟨f7 h, fun q hq => ?_⟩
      exact (f6 trivial).1 q ((f6 trivial).2 q hq)
theorem pos_of {l : List Run} (ha : asc l) (hz : ∀ q ∈ l, q.2 ≠ 0) (hc : ∀ u, 0 ≤ cnt l u) : pos l := by
  intro q hq
  have h1 := asc_cnt ha hq
  have h2 := hc q.1
  have h3 := hz q hq
  omega
end Go.Bag
/-
  BAGS, PLAIN, the ninth part: the document's bags of values, joined, taken away. My own work.
-/
namespace Go.Bag
open Go.Pl
theorem lay_pos {l : List Run} {v n : Int} (ha : asc l) (hp : pos l) (hn : n ≠ 0) (h : 0 ≤ cnt l v + n) : asc (lay l v n) ∧ pos (lay l v n) := by
  obtain ⟨h1, h2, h3, h4, h5⟩ := lay_facts l v n
  refine ⟨h5 ha, pos_of (h5 ha) (h4 hn) fun u => ?_⟩
  rw [h1]
  have := cnt_nonneg u hp
  split
  · rename_i e; subst e; exact h
  · omega
def rofS : List Run → List Int → List Run
  | out, [] => out
  | out, v :: l => rofS (lay out v 1) l
theorem rofS_facts : ∀ (l : List Int) (out : List Run), asc out → pos out → asc (rofS out l) ∧ pos (rofS out l) ∧ ∀ v, cnt (rofS out l) v = cnt out v + num l v
  | [], out, ha, hp => ⟨ha, hp, fun v => by simp [rofS, num_nil]⟩
  | x :: l, out, ha, hp => by
    have h1 := cnt_nonneg x hp
    obtain ⟨h2, h3⟩ := lay_pos (v := x) (n := 1) ha hp (by decide) (by omega)
    obtain ⟨g1, g2, g3⟩ := rofS_facts l (lay out x 1) h2 h3
    refine ⟨g1, g2, fun v => ?_⟩
    rw [rofS, g3, (lay_facts out x 1).1, num_cons]; omega
theorem rofS_ofL (l : List Int) : rofS [] l = ofL l := by
  obtain ⟨g1, g2, g3⟩ := rofS_facts l [] (by simp [asc]) (fun q hq => by simp at hq)
  exact ofL_ext g1 g2 fun v => by rw [g3]; simp [cnt]
def layS : List Run → List Run → List Run
  | out, [] => out
  | out, r :: b => layS (lay out r.1 r.2) b
theorem layS_facts : ∀ (b out : List Run), asc out → pos out → pos b → asc (layS out b) ∧ pos (layS out b) ∧ ∀ v, cnt (layS out b) v = cnt out v + cnt b v
  | [], out, ha, hp, _ => ⟨ha, hp, fun v => by simp [layS, cnt]⟩
  | r :: b, out, ha, hp, hb => by
    have h0 := hb r (by simp)
    have h1 := cnt_nonneg r.1 hp
    obtain ⟨h2, h3⟩ := lay_pos (v := r.1) (n := r.2) ha hp (by omega) (by omega)
    obtain ⟨g1, g2, g3⟩ := layS_facts b (lay out r.1 r.2) h2 h3 fun q hq => hb q (by simp [hq])
    refine ⟨g1, g2, fun v => ?_⟩
    rw [layS, g3, (lay_facts out r.1 r.2).1]; simp only [cnt]; omega
theorem layS_join {a b : List Run} (ga : good a = true) (gb : good b = true) (h : sum a + sum b ≤ cap) : join a b = (layS a b, true) := by
  obtain ⟨a1, a2, _⟩ := good_iff.mp ga
  obtain ⟨b1, b2, _⟩ := good_iff.mp gb
  obtain ⟨o, h1, h2, _, h4⟩ := join_ok ga gb h
  obtain ⟨g1, g2, g3⟩ := layS_facts b a a1 a2 b2
  obtain ⟨o1, o2, _⟩ := good_iff.mp h2
  rw [h1, ext o1 g1 o2 g2 fun v => by rw [h4, g3]]
def rminL (a : List Run) : List Run → List Run → Option (List Run)
  | out, [] => some out
  | out, r :: b => if cnt a r.1 < r.2 then none else rminL a (lay out r.1 (-r.2)) b
theorem rminL_facts (a : List Run) (ha : asc a) (hpa : pos a) : ∀ (b pre out : List Run), asc (pre ++ b) → pos (pre ++ b) → asc out → pos out → (∀ v, cnt out v = cnt a v - cnt pre v) →
    (∀ o, rminL a out b = some o → asc o ∧ pos o ∧ sub (pre ++ b) a ∧ ∀ v, cnt o v = cnt a v - cnt (pre ++ b) v) ∧ (rminL a out b = none → ¬ sub (pre ++ b) a)
  | [], pre, out, hb, hpb, ho, hpo, hc => by
    refine ⟨fun o h => ?_, fun h => by simp [rminL] at h⟩
    simp only [rminL] at h
    obtain rfl := Option.some.inj h
    rw [List.append_nil]
    exact ⟨ho, hpo, fun v => by have := hc v; have := cnt_nonneg v hpo; omega, hc⟩
  | r :: b, pre, out, hb, hpb, ho, hpo, hc => by
    have hr := asc_cnt hb (r := r) (by simp)
    have h0 := hpb r (by simp)
    have hpre : cnt pre r.1 = 0 := cnt_none fun q hq => by
      have := (List.pairwise_append.mp hb).2.2 q hq r (by simp)
      omega
    simp only [rminL]
    split
    · rename_i hlt
      exact ⟨fun o h => by simp at h, fun _ hs => by have := hs r.1; omega⟩
    · rename_i hge
      obtain ⟨h2, h3⟩ := lay_pos (v := r.1) (n := -r.2) ho hpo (by omega) (by rw [hc]; omega)
      have e : pre ++ r :: b = (pre ++ [r]) ++ b := by simp
      rw [e] at hb hpb ⊢
      exact rminL_facts a ha hpa b (pre ++ [r]) (lay out r.1 (-r.2)) hb hpb h2 h3 fun v => by
        rw [(lay_facts out r.1 (-r.2)).1, hc, cnt_append]; simp only [cnt]; split <;> omega
theorem rminL_minus {a b : List Run} (ga : good a = true) (gb : good b = true) : minus a b = (match rminL a a b with | some o => (o, true) | none => ([], false)) := by
  obtain ⟨a1, a2, _⟩ := good_iff.mp ga
  obtain ⟨b1, b2, _⟩ := good_iff.mp gb
  obtain ⟨h1, h2⟩ := rminL_facts a a1 a2 b [] a b1 b2 a1 a2 (fun v => by simp [cnt])
  cases h : rminL a a b with
  | none => exact minus_no (h2 h)
  | some o =>
    obtain ⟨g1, g2, g3, g4⟩ := h1 o h
    obtain ⟨p, hp, p1, p2, p3⟩ := minus_facts ga gb g3
    rw [hp, ext p1 g1 p2 g2 fun v => by rw [p3, g4]; rfl]
end Go.Bag
/-
  CELLS, PLAIN: what is known of some rows. My own work.
-/
namespace Go.Bag
open Go.Pl
structure Cell where
  n : Int
  s0 : Int
  s1 : Int
  b0 : List Run
  b1 : List Run
  deriving DecidableEq
def zeroC : Cell := ⟨0, 0, 0, [], []⟩
def encC (c : Cell) : List CV := [.int .i64 c.n, .int .i64 c.s0, .int .i64 c.s1, encL c.b0, encL c.b1]
def encCell (c : Cell) : CV := .agg (encC c)
def in64 (a : Int) : Prop := -9223372036854775808 ≤ a ∧ a ≤ 9223372036854775807
instance (a : Int) : Decidable (in64 a) := by unfold in64; infer_instance
def inC (k : Nat) (c : Cell) : Prop := in64 c.n ∧ in64 c.s0 ∧ in64 c.s1 ∧ ranged c.b0 ∧ ranged c.b1 ∧ c.b0.length ≤ k ∧ c.b1.length ≤ k
def gM (b : List Run) (s n : Int) : Bool := decide (good b = true ∧ wsum b = s ∧ sum b = n)
def goodC (m : Int) (c : Cell) : Bool := decide ((1 ≤ m ∧ m ≤ 2) ∧ (1 ≤ c.n ∧ c.n ≤ 1099511627776) ∧ gM c.b0 c.s0 c.n = true ∧ (if m = 2 then gM c.b1 c.s1 c.n = true else c.s1 = 0 ∧ c.b1 = []))
structure LineS where
  p0 : Int
  p1 : Int
  p2 : Int
  p3 : Int
  n : Int
  s0 : Int
  s1 : Int
  lo0 : Int
  lo1 : Int
  hi0 : Int
  hi1 : Int
  deriving DecidableEq
structure Place where
  p0 : Int
  p1 : Int
  p2 : Int
  p3 : Int
  deriving DecidableEq
def encP (p : Place) : List CV := [.int .u8 p.p0, .int .u8 p.p1, .int .u8 p.p2, .int .u8 p.p3]
structure RowS where
  p : Place
  m0 : Int
  m1 : Int
  deriving DecidableEq
def encRow (r : RowS) : List CV := encP r.p ++ [.int .i64 r.m0, .int .i64 r.m1]
def encRows (l : List RowS) : CV := .sl (l.map encRow)
def ofC (m : Int) (l : List RowS) : Cell × Bool :=
  if (1 ≤ m ∧ m ≤ 2) ∧ l ≠ [] ∧ in64 (sumI (l.map (·.m0))) ∧ (m = 2 → in64 (sumI (l.map (·.m1)))) then
    (⟨l.length, sumI (l.map (·.m0)), if m = 2 then sumI (l.map (·.m1)) else 0, ofL (l.map (·.m0)), if m = 2 then ofL (l.map (·.m1)) else []⟩, true) else (zeroC, false)
theorem goodC_iff {m : Int} {c : Cell} : goodC m c = true ↔ (1 ≤ m ∧ m ≤ 2) ∧ (1 ≤ c.n ∧ c.n ≤ 1099511627776) ∧ gM c.b0 c.s0 c.n = true ∧ (if m = 2 then gM c.b1 c.s1 c.n = true else c.s1 = 0 ∧ c.b1 = []) := by
  simp only [goodC, decide_eq_true_eq]
theorem gM_iff {b : List Run} {s n : Int} : gM b s n = true ↔ good b = true ∧ wsum b = s ∧ sum b = n := by simp only [gM, decide_eq_true_eq]
end Go.Bag
/-
  DELTAS, PLAIN: what comes, what goes. My own work.
-/
namespace Go.Bag
open Go.Pl
/-! ### All runs together, weighed -/
def swt (f : Int → Int) : List Run → Int
  | [] => 0
  | r :: l => f r.1 * r.2 + swt f l
theorem swt_append (f : Int → Int) : ∀ (a b : List Run), swt f (a ++ b) = swt f a + swt f b
  | [], b => by simp [swt]
  | r :: a, b => by simp only [List.cons_append, swt, swt_append f a b]; omega
def negL (l : List Run) : List Run := l.map fun r => (r.1, -r.2)
theorem swt_neg (f : Int → Int) : ∀ (a : List Run), swt f (negL a) = - swt f a
  | [] => by simp [swt, negL]
  | r :: a => by
    have := swt_neg f a
    simp only [negL, List.map_cons, swt, Int.mul_neg] at this ⊢
    omega
theorem cnt_neg : ∀ (a : List Run) (v : Int), cnt (negL a) v = - cnt a v
  | [], v => by simp [cnt, negL]
  | r :: a, v => by
    have := cnt_neg a v
    simp only [negL, List.map_cons, cnt] at this ⊢
    split <;> omega
theorem swt_out (f : Int → Int) (k : Int) : ∀ l : List Run, swt f l = f k * cnt l k + swt f (l.filter fun r => decide (r.1 ≠ k))
  | [] => by simp [swt, cnt]
  | r :: l => by
    have := swt_out f k l
    by_cases e : r.1 = k
    · subst e
      simp only [List.filter_cons, ne_eq, not_true_eq_false, decide_false, Bool.false_eq_true, if_false, swt, cnt, if_true, Int.mul_add] at this ⊢
      omega
    · simp only [List.filter_cons, ne_eq, e, not_false_eq_true, decide_true, if_true, swt, cnt, if_false, Int.zero_add] at this ⊢
      omega
theorem cnt_out (k v : Int) : ∀ l : List Run, cnt (l.filter fun r => decide (r.1 ≠ k)) v = if v = k then 0 else cnt l v
  | [] => by simp [cnt]
  | r :: l => by
    have := cnt_out k v l
    by_cases e : r.1 = k
    · subst e
      simp only [List.filter_cons, ne_eq, not_true_eq_false, decide_false, Bool.false_eq_true, if_false, cnt] at this ⊢
      rw [this]
      by_cases ev : v = r.1
      · simp [ev]
      · simp [ev, Ne.symm ev]
    · simp only [List.filter_cons, ne_eq, e, not_false_eq_true, decide_true, if_true, cnt] at this ⊢
      rw [this]
      by_cases ev : v = k
      · subst ev; simp [e]
      · simp [ev]
theorem swt_zero (f : Int → Int) : ∀ (n : Nat) (l : List Run), l.length ≤ n → (∀ v, cnt l v = 0) → swt f l = 0
  | _, [], _, _ => rfl
  | 0, _ :: _, h, _ => by simp at h
  | n + 1, r :: l, h, hc => by
    rw [swt_out f r.1, hc r.1]
    have hl : ((r :: l).filter fun q => decide (q.1 ≠ r.1)).length ≤ n := by
      have := List.length_filter_le (fun q => decide (q.1 ≠ r.1)) l
      simp only [List.filter_cons, ne_eq, not_true_eq_false, decide_false, Bool.false_eq_true, if_false] at *
      simp only [List.length_cons] at h
      omega
    rw [swt_zero f n _ hl fun v => by rw [cnt_out]; split <;> simp [hc]]
    simp
theorem sum_swt : ∀ l : List Run, sum l = swt (fun _ => 1) l
  | [] => rfl
  | r :: l => by simp only [sum, swt, sum_swt l]; omega
theorem wsum_swt : ∀ l : List Run, wsum l = swt (fun v => v) l
  | [] => rfl
  | r :: l => by simp only [wsum, swt, wsum_swt l]
theorem tot_of {a b c d : List Run} (h : ∀ v, cnt a v + cnt b v = cnt c v + cnt d v) : sum a + sum b = sum c + sum d ∧ wsum a + wsum b = wsum c + wsum d := by
  have key : ∀ f, swt f a + swt f b = swt f c + swt f d := by
    intro f
    have := swt_zero f _ (a ++ b ++ (negL c ++ negL d)) (Nat.le_refl _) fun v => by
      simp only [cnt_append, cnt_neg]; have := h v; omega
    simp only [swt_append, swt_neg] at this
    omega
  simp only [sum_swt, wsum_swt]
  exact ⟨key _, key _⟩
/-! ### What two have in common, what one has more -/
def some_ (v n : Int) : List Run := if 0 < n then [(v, n)] else []
theorem cnt_some (v n u : Int) (h : 0 ≤ n) : cnt (some_ v n) u = if v = u then n else 0 := by
  unfold some_
  by_cases e : 0 < n
  · rw [if_pos e]; simp [cnt]
  · rw [if_neg e]; have : n = 0 := by omega
    subst this; simp [cnt]
def com (b : List Run) : List Run → List Run
  | [] => []
  | r :: l => some_ r.1 (min r.2 (has b r.1)) ++ com b l
def cut (b : List Run) : List Run → List Run
  | [] => []
  | r :: l => some_ r.1 (r.2 - min r.2 (has b r.1)) ++ cut b l
theorem mem_some {v n : Int} {q : Run} (h : q ∈ some_ v n) : q = (v, n) ∧ 0 < n := by
  unfold some_ at h
  split at h
  · rename_i h0; exact ⟨List.mem_singleton.mp h, h0⟩
  · simp at h
theorem asc_some {v n : Int} {l : List Run} (h : asc l) (hv : ∀ q ∈ l, v < q.1) : asc (some_ v n ++ l) := by
  unfold some_
  split
  · exact asc_cons.mpr ⟨hv, h⟩
  · exact h
theorem pos_some {v n : Int} {l : List Run} (h : pos l) : pos (some_ v n ++ l) := by
  intro q hq
  rcases List.mem_append.mp hq with hq | hq
  · obtain ⟨rfl, h0⟩ := mem_some hq; show 1 ≤ n; omega
  · exact h q hq
theorem com_facts {b : List Run} (hb : asc b) (pb : pos b) : ∀ a : List Run, asc a → pos a → asc (com b a) ∧ pos (com b a) ∧ (∀ v, cnt (com b a) v = min (cnt a v) (cnt b v)) ∧ ∀ q ∈ com b a, ∃ r ∈ a, q.1 = r.1 ∧ q.2 ≤ r.2
  | [], _, _ => ⟨by simp [com, asc], fun q hq => by simp [com] at hq, fun v => by simp only [com, cnt]; have := cnt_nonneg v pb; omega, fun q hq => by simp [com] at hq⟩
  | r :: l, ha, pa => by
    obtain ⟨h1, h2⟩ := asc_cons.mp ha
    have pa' : pos l := fun q hq => pa q (by simp [hq])
    obtain ⟨c1, c2, c3, c4⟩ := com_facts hb pb l h2 pa'
    have hr := pa r (by simp)
    have hx := has_cnt r.1 hb
    have hn := cnt_nonneg r.1 pb
    have ea : cnt l r.1 = 0 := cnt_none fun q hq => by have := h1 q hq; omega
    refine ⟨asc_some c1 fun q hq => ?_, pos_some c2, fun v => ?_, fun q hq => ?_⟩
    · obtain ⟨p, hp, e, _⟩ := c4 q hq; rw [e]; exact h1 p hp
    · simp only [com, cnt_append, cnt_some r.1 _ v (show 0 ≤ min r.2 (has b r.1) by omega), c3, cnt]
      by_cases e : r.1 = v
      · subst e; simp only [if_true, ea]; omega
      · simp [e]
    · rcases List.mem_append.mp hq with hq | hq
      · obtain ⟨rfl, _⟩ := mem_some hq; exact ⟨r, by simp, rfl, by show min r.2 (has b r.1) ≤ r.2; omega⟩
      · obtain ⟨p, hp, e⟩ := c4 q hq; exact ⟨p, by simp [hp], e⟩
theorem cut_facts {b : List Run} (hb : asc b) (pb : pos b) : ∀ a : List Run, asc a → pos a → asc (cut b a) ∧ pos (cut b a) ∧ (∀ v, cnt (cut b a) v = cnt a v - min (cnt a v) (cnt b v)) ∧ ∀ q ∈ cut b a, ∃ r ∈ a, q.1 = r.1 ∧ q.2 ≤ r.2
  | [], _, _ => ⟨by simp [cut, asc], fun q hq => by simp [cut] at hq, fun v => by simp only [cut, cnt]; have := cnt_nonneg v pb; omega, fun q hq => by simp [cut] at hq⟩
  | r :: l, ha, pa => by
    obtain ⟨h1, h2⟩ := asc_cons.mp ha
    have pa' : pos l := fun q hq => pa q (by simp [hq])
    obtain ⟨c1, c2, c3, c4⟩ := cut_facts hb pb l h2 pa'
    have hr := pa r (by simp)
    have hx := has_cnt r.1 hb
    have hn := cnt_nonneg r.1 pb
    have ea : cnt l r.1 = 0 := cnt_none fun q hq => by have := h1 q hq; omega
    refine ⟨asc_some c1 fun q hq => ?_, pos_some c2, fun v => ?_, fun q hq => ?_⟩
    · obtain ⟨p, hp, e, _⟩ := c4 q hq; rw [e]; exact h1 p hp
    · simp only [cut, cnt_append, cnt_some r.1 _ v (show 0 ≤ r.2 - min r.2 (has b r.1) by omega), c3, cnt]
      by_cases e : r.1 = v
      · subst e; simp only [if_true, ea]; omega
      · simp [e]
    · rcases List.mem_append.mp hq with hq | hq
      · obtain ⟨rfl, _⟩ := mem_some hq; exact ⟨r, by simp, rfl, by show r.2 - min r.2 (has b r.1) ≤ r.2; omega⟩
      · obtain ⟨p, hp, e⟩ := c4 q hq; exact ⟨p, by simp [hp], e⟩
theorem com_len (b : List Run) : ∀ a : List Run, (com b a).length ≤ a.length
  | [] => by simp [com]
  | r :: l => by
    have := com_len b l
    simp only [com, some_, List.length_append, List.length_cons]
    split <;> simp <;> omega
theorem cut_len (b : List Run) : ∀ a : List Run, (cut b a).length ≤ a.length
  | [] => by simp [cut]
  | r :: l => by
    have := cut_len b l
    simp only [cut, some_, List.length_append, List.length_cons]
    split <;> simp <;> omega
theorem good_com {a b : List Run} (ga : good a = true) (gb : good b = true) : good (com b a) = true ∧ ∀ v, cnt (com b a) v = min (cnt a v) (cnt b v) := by
  obtain ⟨a1, a2, a3⟩ := good_iff.mp ga
  obtain ⟨b1, b2, b3⟩ := good_iff.mp gb
  obtain ⟨c1, c2, c3, _⟩ := com_facts b1 b2 a a1 a2
  obtain ⟨d1, d2, d3, _⟩ := cut_facts b1 b2 a a1 a2
  have := (tot_of (a := com b a) (b := cut b a) (c := a) (d := []) fun v => by rw [c3, d3]; simp only [cnt]; omega).1
  have := sum_nonneg d2
  refine ⟨good_iff.mpr ⟨c1, c2, ?_⟩, c3⟩
  simp only [sum] at *; omega
theorem good_cut {a b : List Run} (ga : good a = true) (gb : good b = true) : good (cut b a) = true ∧ ∀ v, cnt (cut b a) v = cnt a v - min (cnt a v) (cnt b v) := by
  obtain ⟨a1, a2, a3⟩ := good_iff.mp ga
  obtain ⟨b1, b2, b3⟩ := good_iff.mp gb
  obtain ⟨c1, c2, c3, _⟩ := com_facts b1 b2 a a1 a2
  obtain ⟨d1, d2, d3, _⟩ := cut_facts b1 b2 a a1 a2
  have := (tot_of (a := com b a) (b := cut b a) (c := a) (d := []) fun v => by rw [c3, d3]; simp only [cnt]; omega).1
  have := sum_nonneg c2
  refine ⟨good_iff.mpr ⟨d1, d2, ?_⟩, d3⟩
  simp only [sum] at *; omega
theorem ext_good {a b : List Run} (ga : good a = true) (gb : good b = true) (h : ∀ v, cnt a v = cnt b v) : a = b := by
  obtain ⟨a1, a2, _⟩ := good_iff.mp ga
  obtain ⟨b1, b2, _⟩ := good_iff.mp gb
  exact ext a1 b1 a2 b2 h
theorem cnt_good {a : List Run} (ga : good a = true) (v : Int) : 0 ≤ cnt a v := cnt_nonneg v (good_iff.mp ga).2.1
theorem minus_is {a b c : List Run} (ga : good a = true) (gb : good b = true) (gc : good c = true) (h : ∀ v, cnt c v + cnt b v = cnt a v) : minus a b = (c, true) := by
  obtain ⟨o, e, h1, h2, h3⟩ := minus_facts ga gb fun v => by have := h v; have := cnt_good gc v; omega
  obtain ⟨c1, c2, _⟩ := good_iff.mp gc
  rw [e, ext h1 c1 h2 c2 fun v => by rw [h3]; have := h v; omega]
theorem minus_com {a b : List Run} (ga : good a = true) (gb : good b = true) : minus a (com b a) = (cut b a, true) ∧ minus b (com b a) = (cut a b, true) := by
  obtain ⟨c1, c2⟩ := good_com ga gb
  obtain ⟨d1, d2⟩ := good_cut ga gb
  obtain ⟨e1, e2⟩ := good_cut gb ga
  exact ⟨minus_is ga c1 d1 fun v => by rw [c2, d2]; omega, minus_is gb c1 e1 fun v => by rw [c2, e2]; omega⟩
theorem cut_tot {a b : List Run} (ga : good a = true) (gb : good b = true) : sum (cut b a) - sum (cut a b) = sum a - sum b ∧ wsum (cut b a) - wsum (cut a b) = wsum a - wsum b := by
  obtain ⟨d1, d2⟩ := good_cut ga gb
  obtain ⟨e1, e2⟩ := good_cut gb ga
  have := tot_of (a := cut b a) (b := b) (c := a) (d := cut a b) fun v => by rw [d2, e2]; omega
  omega
def apartL (a b : List Run) : Bool := a.all fun r => decide (has b r.1 ≤ 0)
theorem apartL_iff {a b : List Run} (ga : good a = true) (gb : good b = true) : apartL a b = true ↔ ∀ v, cnt a v = 0 ∨ cnt b v = 0 := by
  obtain ⟨a1, a2, _⟩ := good_iff.mp ga
  obtain ⟨b1, b2, _⟩ := good_iff.mp gb
  simp only [apartL, List.all_eq_true, decide_eq_true_eq]
  constructor
  · intro h v
    by_cases hv : cnt a v = 0
    · exact .inl hv
    · obtain ⟨r, hr, rfl⟩ := mem_of_cnt hv
      have := h r hr
      rw [has_cnt _ b1] at this
      have := cnt_nonneg r.1 b2
      exact .inr (by omega)
  · intro h r hr
    rw [has_cnt _ b1]
    have := asc_cnt a1 hr
    have := a2 r hr
    rcases h r.1 with h | h <;> omega
theorem apart_cut {a b : List Run} (ga : good a = true) (gb : good b = true) : apartL (cut b a) (cut a b) = true := by
  obtain ⟨d1, d2⟩ := good_cut ga gb
  obtain ⟨e1, e2⟩ := good_cut gb ga
  rw [apartL_iff d1 e1]
  intro v; rw [d2, e2]; omega
theorem cut_apart {a b : List Run} (ga : good a = true) (gb : good b = true) (h : apartL a b = true) : cut b a = a := by
  obtain ⟨d1, d2⟩ := good_cut ga gb
  rw [apartL_iff ga gb] at h
  refine ext_good d1 ga fun v => ?_
  rw [d2]; have := h v; have := cnt_good ga v; have := cnt_good gb v; omega
theorem apart_symm {a b : List Run} (ga : good a = true) (gb : good b = true) (h : apartL a b = true) : apartL b a = true := by
  rw [apartL_iff ga gb] at h
  rw [apartL_iff gb ga]
  exact fun v => (h v).symm
theorem join_nil {a : List Run} (ga : good a = true) : join a [] = (a, true) := by
  have g0 : good [] = true := by decide
  obtain ⟨a1, a2, a3⟩ := good_iff.mp ga
  obtain ⟨o, h1, h2, h3, h4⟩ := join_ok ga g0 (by simp only [sum]; omega)
  rw [h1, ext_good h2 ga fun v => by rw [h4]; simp [cnt]]
theorem join_comm (a b : List Run) : join a b = join b a := by
  by_cases h : good a = true ∧ good b = true ∧ sum a + sum b ≤ cap
  · obtain ⟨ga, gb, hs⟩ := h
    obtain ⟨o, h1, h2, h3, h4⟩ := join_ok ga gb hs
    obtain ⟨p, k1, k2, k3, k4⟩ := join_ok gb ga (by omega)
    rw [h1, k1, ext_good h2 k2 fun v => by rw [h4, k4]; omega]
  · rw [join_no h, join_no fun k => h ⟨k.2.1, k.1, by omega⟩]
/-! ### A delta -/
structure Delta where
  n : Int
  s0 : Int
  s1 : Int
  i0 : List Run
  i1 : List Run
  o0 : List Run
  o1 : List Run
  deriving DecidableEq
def zeroD : Delta := ⟨0, 0, 0, [], [], [], []⟩
def encD (d : Delta) : List CV := [.int .i64 d.n, .int .i64 d.s0, .int .i64 d.s1, encL d.i0, encL d.i1, encL d.o0, encL d.o1]
def encDelta (d : Delta) : CV := .agg (encD d)
def inB (k : Nat) (b : List Run) : Prop := ranged b ∧ b.length ≤ k
def inD (k : Nat) (d : Delta) : Prop := in64 d.n ∧ in64 d.s0 ∧ in64 d.s1 ∧ inB k d.i0 ∧ inB k d.i1 ∧ inB k d.o0 ∧ inB k d.o1
def mD (n s : Int) (a b : List Run) : Bool := decide (good a = true ∧ good b = true ∧ apartL a b = true ∧ sum a - sum b = n ∧ wsum a - wsum b = s)
def goodD (m : Int) (d : Delta) : Bool := decide ((1 ≤ m ∧ m ≤ 2) ∧ (-1099511627776 ≤ d.n ∧ d.n ≤ 1099511627776) ∧ mD d.n d.s0 d.i0 d.o0 = true ∧ (if m = 2 then mD d.n d.s1 d.i1 d.o1 = true else d.s1 = 0 ∧ d.i1 = [] ∧ d.o1 = []))
theorem mD_iff {n s : Int} {a b : List Run} : mD n s a b = true ↔ good a = true ∧ good b = true ∧ apartL a b = true ∧ sum a - sum b = n ∧ wsum a - wsum b = s := by simp only [mD, decide_eq_true_eq]
theorem goodD_iff {m : Int} {d : Delta} : goodD m d = true ↔ (1 ≤ m ∧ m ≤ 2) ∧ (-1099511627776 ≤ d.n ∧ d.n ≤ 1099511627776) ∧ mD d.n d.s0 d.i0 d.o0 = true ∧ (if m = 2 then mD d.n d.s1 d.i1 d.o1 = true else d.s1 = 0 ∧ d.i1 = [] ∧ d.o1 = []) := by simp only [goodD, decide_eq_true_eq]
def mkD (m n : Int) (i0 i1 o0 o1 : List Run) : Delta × Bool :=
  if in64 (wsum i0 - wsum o0) ∧ (m = 2 → in64 (wsum i1 - wsum o1)) ∧ (-1099511627776 ≤ n ∧ n ≤ 1099511627776) then
    (⟨n, wsum i0 - wsum o0, if m = 2 then wsum i1 - wsum o1 else 0, cut o0 i0, if m = 2 then cut o1 i1 else [], cut i0 o0, if m = 2 then cut i1 o1 else []⟩, true) else (zeroD, false)
def preD (m n : Int) (i0 i1 o0 o1 : List Run) : Prop := (1 ≤ m ∧ m ≤ 2) ∧ (good i0 = true ∧ good o0 = true ∧ sum i0 - sum o0 = n) ∧ (m = 2 → good i1 = true ∧ good o1 = true ∧ sum i1 - sum o1 = n)
theorem mkD_good {m n : Int} {i0 i1 o0 o1 : List Run} (h : preD m n i0 i1 o0 o1) (hk : (mkD m n i0 i1 o0 o1).2 = true) : goodD m (mkD m n i0 i1 o0 o1).1 = true := by
  unfold mkD at hk ⊢
  split at hk
  · rename_i hc
    rw [if_pos hc]
    obtain ⟨hm, ⟨g1, g2, g3⟩, h2⟩ := h
    rw [goodD_iff]
    refine ⟨hm, hc.2.2, ?_, ?_⟩
    · have := cut_tot g1 g2
      exact mD_iff.mpr ⟨(good_cut g1 g2).1, (good_cut g2 g1).1, apart_cut g1 g2, (by show sum (cut o0 i0) - sum (cut i0 o0) = n; omega), (by show wsum (cut o0 i0) - wsum (cut i0 o0) = wsum i0 - wsum o0; omega)⟩
    · split
      · rename_i hm2
        obtain ⟨k1, k2, k3⟩ := h2 hm2
        have := cut_tot k1 k2
        simp only [if_pos hm2]
        exact mD_iff.mpr ⟨(good_cut k1 k2).1, (good_cut k2 k1).1, apart_cut k1 k2, by omega, by omega⟩
      · rename_i hm2
        simp [hm2]
  · cases hk
def joks (m : Int) (a b : Delta) : Prop := (join a.i0 b.i0).2 = true ∧ (join a.o0 b.o0).2 = true ∧ (m = 2 → (join a.i1 b.i1).2 = true ∧ (join a.o1 b.o1).2 = true)
instance (m : Int) (a b : Delta) : Decidable (joks m a b) := by unfold joks; infer_instance
def joinD (m : Int) (a b : Delta) : Delta × Bool :=
  if goodD m a = true ∧ goodD m b = true ∧ joks m a b then mkD m (a.n + b.n) (join a.i0 b.i0).1 (join a.i1 b.i1).1 (join a.o0 b.o0).1 (join a.o1 b.o1).1 else (zeroD, false)
def negD (m : Int) (d : Delta) : Delta × Bool := if goodD m d = true then mkD m (-d.n) d.o0 d.o1 d.i0 d.i1 else (zeroD, false)
def idleD (m : Int) (d : Delta) : Bool := goodD m d && decide (d = zeroD)
def mayC (m : Int) (c : Cell) (is : Bool) : Bool := if is then goodC m c else decide (c = zeroC)
def betweenD (m : Int) (a : Cell) (was : Bool) (b : Cell) (is : Bool) : Delta × Bool :=
  if (1 ≤ m ∧ m ≤ 2) ∧ mayC m a was = true ∧ mayC m b is = true then mkD m (b.n - a.n) b.b0 b.b1 a.b0 a.b1 else (zeroD, false)
def ofD (m : Int) (del : Bool) (r : RowS) : Delta × Bool :=
  if 1 ≤ m ∧ m ≤ 2 then (if del then mkD m (-1) [] [] [(r.m0, 1)] [(r.m1, 1)] else mkD m 1 [(r.m0, 1)] [(r.m1, 1)] [] []) else (zeroD, false)
def swap (b o i : List Run) : List Run × Bool := if (minus b o).2 = true then join (minus b o).1 i else ([], false)
def applyN (m : Int) (c : Cell) (d : Delta) : Cell := ⟨c.n + d.n, c.s0 + d.s0, if m = 2 then c.s1 + d.s1 else 0, (swap c.b0 d.o0 d.i0).1, if m = 2 then (swap c.b1 d.o1 d.i1).1 else []⟩
def applyD (m : Int) (c : Cell) (is : Bool) (d : Delta) : Cell × Bool × Bool :=
  if goodD m d = true ∧ mayC m c is = true ∧ ((swap c.b0 d.o0 d.i0).2 = true ∧ (m = 2 → (swap c.b1 d.o1 d.i1).2 = true)) ∧ (in64 (c.s0 + d.s0) ∧ (m = 2 → in64 (c.s1 + d.s1))) ∧ mayC m (applyN m c d) (decide (c.n + d.n ≠ 0)) = true then
    (applyN m c d, decide (c.n + d.n ≠ 0), true) else (zeroC, false, false)
end Go.Bag
/-
  DELTAS, PLAIN, the second part: joined in any order, turned round, undone. My own work.
-/
namespace Go.Bag
open Go.Pl
theorem ext2 {a b c d : List Run} (ga : good a = true) (gb : good b = true) (gc : good c = true) (gd : good d = true) (hab : apartL a b = true) (hcd : apartL c d = true) (h : ∀ v, cnt a v - cnt b v = cnt c v - cnt d v) : a = c ∧ b = d := by
  rw [apartL_iff ga gb] at hab
  rw [apartL_iff gc gd] at hcd
  have key : ∀ v, cnt a v = cnt c v ∧ cnt b v = cnt d v := by
    intro v
    have h1 := hab v; have h2 := hcd v; have h3 := h v
    have := cnt_good ga v; have := cnt_good gb v; have := cnt_good gc v; have := cnt_good gd v
    omega
  exact ⟨ext_good ga gc fun v => (key v).1, ext_good gb gd fun v => (key v).2⟩
theorem extD {m : Int} {d e : Delta} (hd : goodD m d = true) (he : goodD m e = true) (hn : d.n = e.n) (h0 : ∀ v, cnt d.i0 v - cnt d.o0 v = cnt e.i0 v - cnt e.o0 v) (h1 : m = 2 → ∀ v, cnt d.i1 v - cnt d.o1 v = cnt e.i1 v - cnt e.o1 v) : d = e := by
  obtain ⟨_, _, d1, d2⟩ := goodD_iff.mp hd
  obtain ⟨_, _, e1, e2⟩ := goodD_iff.mp he
  obtain ⟨a1, a2, a3, a4, a5⟩ := mD_iff.mp d1
  obtain ⟨b1, b2, b3, b4, b5⟩ := mD_iff.mp e1
  obtain ⟨x1, x2⟩ := ext2 a1 a2 b1 b2 a3 b3 h0
  obtain ⟨dn, ds0, ds1, di0, di1, do0, do1⟩ := d
  obtain ⟨en, es0, es1, ei0, ei1, eo0, eo1⟩ := e
  simp only at *
  subst x1; subst x2; subst hn
  by_cases hm : m = 2
  · rw [if_pos hm] at d2 e2
    obtain ⟨p1, p2, p3, p4, p5⟩ := mD_iff.mp d2
    obtain ⟨q1, q2, q3, q4, q5⟩ := mD_iff.mp e2
    obtain ⟨y1, y2⟩ := ext2 p1 p2 q1 q2 p3 q3 (h1 hm)
    subst y1; subst y2
    simp only [Delta.mk.injEq, true_and, and_true]
    omega
  · rw [if_neg hm] at d2 e2
    obtain ⟨p1, p2, p3⟩ := d2
    obtain ⟨q1, q2, q3⟩ := e2
    subst p2; subst p3; subst q2; subst q3
    simp only [Delta.mk.injEq, true_and, and_true]
    omega
theorem goodD_zero {m : Int} (hm : 1 ≤ m ∧ m ≤ 2) : goodD m zeroD = true := by
  rw [goodD_iff]
  refine ⟨hm, by decide, by decide, ?_⟩
  split
  · decide
  · exact ⟨rfl, rfl, rfl⟩
theorem mkD_sg {m n : Int} {i0 i1 o0 o1 : List Run} (h : preD m n i0 i1 o0 o1) (hk : (mkD m n i0 i1 o0 o1).2 = true) :
    (mkD m n i0 i1 o0 o1).1.n = n ∧ (∀ v, cnt (mkD m n i0 i1 o0 o1).1.i0 v - cnt (mkD m n i0 i1 o0 o1).1.o0 v = cnt i0 v - cnt o0 v) ∧
    (m = 2 → ∀ v, cnt (mkD m n i0 i1 o0 o1).1.i1 v - cnt (mkD m n i0 i1 o0 o1).1.o1 v = cnt i1 v - cnt o1 v) := by
  unfold mkD at hk ⊢
  split at hk
  · rename_i hc
    rw [if_pos hc]
    obtain ⟨hm, ⟨g1, g2, g3⟩, h2⟩ := h
    refine ⟨rfl, fun v => ?_, fun hm2 v => ?_⟩
    · show cnt (cut o0 i0) v - cnt (cut i0 o0) v = _
      rw [(good_cut g1 g2).2, (good_cut g2 g1).2]; omega
    · obtain ⟨k1, k2, k3⟩ := h2 hm2
      simp only [if_pos hm2]
      rw [(good_cut k1 k2).2, (good_cut k2 k1).2]; omega
  · cases hk
theorem join_is {a b : List Run} (h : (join a b).2 = true) : good a = true ∧ good b = true ∧ sum a + sum b ≤ cap ∧ good (join a b).1 = true ∧ sum (join a b).1 = sum a + sum b ∧ wsum (join a b).1 = wsum a + wsum b ∧ ∀ v, cnt (join a b).1 v = cnt a v + cnt b v := by
  by_cases hc : good a = true ∧ good b = true ∧ sum a + sum b ≤ cap
  · obtain ⟨o, h1, h2, h3, h4⟩ := join_ok hc.1 hc.2.1 hc.2.2
    rw [h1]
    have := tot_of (a := o) (b := []) (c := a) (d := b) fun v => by rw [h4]; simp [cnt]
    simp only [sum, wsum] at this
    exact ⟨hc.1, hc.2.1, hc.2.2, h2, h3, (by show wsum o = wsum a + wsum b; omega), h4⟩
  · rw [join_no hc] at h; cases h
theorem joinD_pre {m : Int} {a b : Delta} (ha : goodD m a = true) (hb : goodD m b = true) (hj : joks m a b) :
    preD m (a.n + b.n) (join a.i0 b.i0).1 (join a.i1 b.i1).1 (join a.o0 b.o0).1 (join a.o1 b.o1).1 := by
  obtain ⟨hm, _, d1, d2⟩ := goodD_iff.mp ha
  obtain ⟨_, _, e1, e2⟩ := goodD_iff.mp hb
  obtain ⟨a1, a2, a3, a4, a5⟩ := mD_iff.mp d1
  obtain ⟨b1, b2, b3, b4, b5⟩ := mD_iff.mp e1
  obtain ⟨j1, j2, j3⟩ := hj
  have k1 := join_is j1
  have k2 := join_is j2
  refine ⟨hm, ⟨k1.2.2.2.1, k2.2.2.2.1, by omega⟩, fun hm2 => ?_⟩
  rw [if_pos hm2] at d2 e2
  obtain ⟨p1, p2, p3, p4, p5⟩ := mD_iff.mp d2
  obtain ⟨q1, q2, q3, q4, q5⟩ := mD_iff.mp e2
  have k3 := join_is (j3 hm2).1
  have k4 := join_is (j3 hm2).2
  exact ⟨k3.2.2.2.1, k4.2.2.2.1, by omega⟩
theorem joinD_is {m : Int} {a b : Delta} (h : (joinD m a b).2 = true) : goodD m a = true ∧ goodD m b = true ∧ goodD m (joinD m a b).1 = true ∧ (joinD m a b).1.n = a.n + b.n ∧
    (∀ v, cnt (joinD m a b).1.i0 v - cnt (joinD m a b).1.o0 v = (cnt a.i0 v - cnt a.o0 v) + (cnt b.i0 v - cnt b.o0 v)) ∧
    (m = 2 → ∀ v, cnt (joinD m a b).1.i1 v - cnt (joinD m a b).1.o1 v = (cnt a.i1 v - cnt a.o1 v) + (cnt b.i1 v - cnt b.o1 v)) := by
  unfold joinD at h ⊢
  split at h
  · rename_i hc
    rw [if_pos hc]
    have hp := joinD_pre hc.1 hc.2.1 hc.2.2
    have hg := mkD_good hp h
    obtain ⟨s1, s2, s3⟩ := mkD_sg hp h
    have k1 := join_is hc.2.2.1
    have k2 := join_is hc.2.2.2.1
    refine ⟨hc.1, hc.2.1, hg, s1, fun v => ?_, fun hm2 v => ?_⟩
    · rw [s2, k1.2.2.2.2.2.2, k2.2.2.2.2.2.2]; omega
    · have k3 := join_is (hc.2.2.2.2 hm2).1
      have k4 := join_is (hc.2.2.2.2 hm2).2
      rw [s3 hm2, k3.2.2.2.2.2.2, k4.2.2.2.2.2.2]; omega
  · cases h
theorem joks_comm {m : Int} {a b : Delta} (h : joks m a b) : joks m b a := by
  obtain ⟨h1, h2, h3⟩ := h
  exact ⟨by rw [join_comm]; exact h1, by rw [join_comm]; exact h2, fun hm => ⟨by rw [join_comm]; exact (h3 hm).1, by rw [join_comm]; exact (h3 hm).2⟩⟩
theorem joinD_comm (m : Int) (a b : Delta) : joinD m a b = joinD m b a := by
  unfold joinD
  by_cases hc : goodD m a = true ∧ goodD m b = true ∧ joks m a b
  · rw [if_pos hc, if_pos ⟨hc.2.1, hc.1, joks_comm hc.2.2⟩, join_comm a.i0 b.i0, join_comm a.i1 b.i1, join_comm a.o0 b.o0, join_comm a.o1 b.o1, Int.add_comm a.n b.n]
  · rw [if_neg hc, if_neg fun k => hc ⟨k.2.1, k.1, joks_comm k.2.2⟩]
theorem joinD_assoc {m : Int} {a b c : Delta} (h1 : (joinD m a b).2 = true) (h2 : (joinD m (joinD m a b).1 c).2 = true) (h3 : (joinD m b c).2 = true) (h4 : (joinD m a (joinD m b c).1).2 = true) :
    (joinD m (joinD m a b).1 c).1 = (joinD m a (joinD m b c).1).1 := by
  obtain ⟨a1, a2, a3, a4, a5, a6⟩ := joinD_is h1
  obtain ⟨b1, b2, b3, b4, b5, b6⟩ := joinD_is h2
  obtain ⟨c1, c2, c3, c4, c5, c6⟩ := joinD_is h3
  obtain ⟨d1, d2, d3, d4, d5, d6⟩ := joinD_is h4
  refine extD b3 d3 (by omega) (fun v => ?_) fun hm v => ?_
  · rw [b5, d5, a5, c5]; omega
  · rw [b6 hm, d6 hm, a6 hm, c6 hm]; omega
def negX (d : Delta) : Delta := ⟨-d.n, -d.s0, -d.s1, d.o0, d.o1, d.i0, d.i1⟩
theorem negD_is {m : Int} {d : Delta} (h : goodD m d = true) : negD m d = if in64 (-d.s0) ∧ (m = 2 → in64 (-d.s1)) then (negX d, true) else (zeroD, false) := by
  obtain ⟨hm, hn, d1, d2⟩ := goodD_iff.mp h
  obtain ⟨a1, a2, a3, a4, a5⟩ := mD_iff.mp d1
  have e0 : wsum d.o0 - wsum d.i0 = -d.s0 := by omega
  have c0 := cut_apart a1 a2 a3
  have c1 := cut_apart a2 a1 (apart_symm a1 a2 a3)
  unfold negD mkD
  rw [if_pos h, e0, c0, c1]
  by_cases hm2 : m = 2
  · rw [if_pos hm2] at d2
    obtain ⟨p1, p2, p3, p4, p5⟩ := mD_iff.mp d2
    have e1 : wsum d.o1 - wsum d.i1 = -d.s1 := by omega
    rw [e1, cut_apart p1 p2 p3, cut_apart p2 p1 (apart_symm p1 p2 p3)]
    simp only [hm2, if_true, true_implies]
    by_cases hc : in64 (-d.s0) ∧ in64 (-d.s1)
    · rw [if_pos ⟨hc.1, hc.2, by omega, by omega⟩, if_pos hc]; rfl
    · rw [if_neg fun k => hc ⟨k.1, k.2.1⟩, if_neg hc]
  · rw [if_neg hm2] at d2
    simp only [hm2, if_false, false_implies, and_true]
    by_cases hc : in64 (-d.s0)
    · rw [if_pos ⟨hc, trivial, by omega, by omega⟩, if_pos hc]; simp [negX, d2.1, d2.2.1, d2.2.2]
    · rw [if_neg fun k => hc k.1, if_neg hc]
theorem goodD_neg {m : Int} {d : Delta} (h : goodD m d = true) : goodD m (negX d) = true := by
  obtain ⟨hm, hn, d1, d2⟩ := goodD_iff.mp h
  obtain ⟨a1, a2, a3, a4, a5⟩ := mD_iff.mp d1
  refine goodD_iff.mpr ⟨hm, by show -1099511627776 ≤ -d.n ∧ -d.n ≤ 1099511627776; omega, mD_iff.mpr ⟨a2, a1, apart_symm a1 a2 a3, by show sum d.o0 - sum d.i0 = -d.n; omega, by show wsum d.o0 - wsum d.i0 = -d.s0; omega⟩, ?_⟩
  by_cases hm2 : m = 2
  · rw [if_pos hm2] at d2 ⊢
    obtain ⟨p1, p2, p3, p4, p5⟩ := mD_iff.mp d2
    exact mD_iff.mpr ⟨p2, p1, apart_symm p1 p2 p3, by show sum d.o1 - sum d.i1 = -d.n; omega, by show wsum d.o1 - wsum d.i1 = -d.s1; omega⟩
  · rw [if_neg hm2] at d2 ⊢
    exact ⟨by show -d.s1 = 0; omega, d2.2.2, d2.2.1⟩
theorem negX_negX (d : Delta) : negX (negX d) = d := by simp [negX]
theorem negD_ok {m : Int} {d : Delta} (h : (negD m d).2 = true) : goodD m d = true ∧ in64 (-d.s0) ∧ (m = 2 → in64 (-d.s1)) ∧ negD m d = (negX d, true) := by
  by_cases hg : goodD m d = true
  · rw [negD_is hg] at h ⊢
    split at h
    · rename_i hc; rw [if_pos hc]; exact ⟨hg, hc.1, hc.2, rfl⟩
    · cases h
  · unfold negD at h; rw [if_neg hg] at h; cases h
theorem neg_neg {m : Int} {d : Delta} (h : (negD m d).2 = true) (h0 : in64 d.s0) (h1 : in64 d.s1) : negD m (negD m d).1 = (d, true) := by
  obtain ⟨hg, _, _, e⟩ := negD_ok h
  rw [e]
  show negD m (negX d) = _
  rw [negD_is (goodD_neg hg), negX_negX, if_pos ⟨by show in64 (- -d.s0); rw [Int.neg_neg]; exact h0, fun _ => by show in64 (- -d.s1); rw [Int.neg_neg]; exact h1⟩]
theorem neg_join {m : Int} {d : Delta} (h : (negD m d).2 = true) (hj : (joinD m (negD m d).1 d).2 = true) : (joinD m (negD m d).1 d).1 = zeroD := by
  obtain ⟨hg, _, _, e⟩ := negD_ok h
  obtain ⟨a1, a2, a3, a4, a5, a6⟩ := joinD_is hj
  have hm := (goodD_iff.mp hg).1
  refine extD a3 (goodD_zero hm) ?_ (fun v => ?_) fun hm2 v => ?_
  · rw [a4, e]; show -d.n + d.n = 0; omega
  · rw [a5, e]; show cnt d.o0 v - cnt d.i0 v + (cnt d.i0 v - cnt d.o0 v) = cnt [] v - cnt [] v; omega
  · rw [a6 hm2, e]; show cnt d.o1 v - cnt d.i1 v + (cnt d.i1 v - cnt d.o1 v) = cnt [] v - cnt [] v; omega
/-! ### A cell, and back -/
theorem minus_of {a b : List Run} (h : (minus a b).2 = true) : good a = true ∧ good b = true ∧ good (minus a b).1 = true ∧ ∀ v, cnt (minus a b).1 v = cnt a v - cnt b v := by
  by_cases hg : good a = true ∧ good b = true
  · by_cases hs : sub b a
    · obtain ⟨o, h1, h2, h3, h4⟩ := minus_facts hg.1 hg.2 hs
      rw [h1]
      refine ⟨hg.1, hg.2, good_iff.mpr ⟨h2, h3, ?_⟩, h4⟩
      have := (tot_of (a := o) (b := b) (c := a) (d := []) fun v => by rw [h4]; simp [cnt]).1
      have := sum_nonneg (good_iff.mp hg.2).2.1
      have := (good_iff.mp hg.1).2.2
      simp only [sum] at *; omega
    · rw [minus_no hs] at h; cases h
  · unfold minus at h; rw [if_neg hg] at h; cases h
theorem swap_is {b o i : List Run} (h : (swap b o i).2 = true) : good b = true ∧ good o = true ∧ good i = true ∧ good (swap b o i).1 = true ∧ (∀ v, cnt (swap b o i).1 v = cnt b v - cnt o v + cnt i v) ∧ sub o b ∧ sum (swap b o i).1 = sum b - sum o + sum i ∧ wsum (swap b o i).1 = wsum b - wsum o + wsum i := by
  unfold swap at h ⊢
  split at h
  · rename_i hm
    rw [if_pos hm]
    obtain ⟨a1, a2, a3, a4⟩ := minus_of hm
    have k := join_is h
    have hc : ∀ v, cnt (join (minus b o).1 i).1 v = cnt b v - cnt o v + cnt i v := fun v => by rw [k.2.2.2.2.2.2, a4]
    have := tot_of (a := (join (minus b o).1 i).1) (b := o) (c := b) (d := i) fun v => by rw [hc]; omega
    exact ⟨a1, a2, k.2.1, k.2.2.2.1, hc, fun v => by have := cnt_good a3 v; rw [a4] at this; omega, by omega, by omega⟩
  · cases h
theorem swap_back {b o i : List Run} (h : (swap b o i).2 = true) : swap (swap b o i).1 i o = (b, true) := by
  obtain ⟨g1, g2, g3, g4, g5, g6, g7, g8⟩ := swap_is h
  have h0 := h
  unfold swap at h0
  split at h0
  · rename_i hm
    obtain ⟨a1, a2, a3, a4⟩ := minus_of hm
    have e : minus (swap b o i).1 i = ((minus b o).1, true) := minus_is g4 g3 a3 fun v => by rw [a4, g5]
    have es := (tot_of (a := (minus b o).1) (b := o) (c := b) (d := []) fun v => by rw [a4]; simp [cnt]).1
    have := (good_iff.mp g1).2.2
    obtain ⟨q, j1, j2, j3, j4⟩ := join_ok a3 g2 (by simp only [sum] at es; omega)
    show (if (minus (swap b o i).1 i).2 = true then join (minus (swap b o i).1 i).1 o else ([], false)) = _
    rw [e]
    show join (minus b o).1 o = _
    rw [j1, ext_good j2 g1 fun v => by rw [j4, a4]; omega]
  · cases h0
theorem mayC_n {m : Int} {c : Cell} {is : Bool} (h : mayC m c is = true) : is = decide (c.n ≠ 0) := by
  unfold mayC at h
  cases is with
  | true =>
    simp only [if_true] at h
    have := (goodC_iff.mp h).2.1
    have hn : c.n ≠ 0 := by omega
    simp [hn]
  | false =>
    simp only [Bool.false_eq_true, if_false, decide_eq_true_eq] at h
    subst h; simp [zeroC]
theorem mayC_1 {m : Int} {c : Cell} {is : Bool} (h : mayC m c is = true) (hm : m ≠ 2) : c.s1 = 0 ∧ c.b1 = [] := by
  unfold mayC at h
  cases is with
  | true =>
    simp only [if_true] at h
    have := (goodC_iff.mp h).2.2.2
    rw [if_neg hm] at this
    exact this
  | false =>
    simp only [Bool.false_eq_true, if_false, decide_eq_true_eq] at h
    subst h; exact ⟨rfl, rfl⟩
theorem back_law {m : Int} {c : Cell} {is : Bool} {d : Delta} (h0 : in64 c.s0) (h1 : in64 c.s1) (ha : (applyD m c is d).2.2 = true) (hn : (negD m d).2 = true) :
    applyD m (applyD m c is d).1 (applyD m c is d).2.1 (negD m d).1 = (c, is, true) := by
  obtain ⟨hg, i0, i1, e⟩ := negD_ok hn
  rw [e]
  unfold applyD at ha
  split at ha
  · rename_i hc
    have ea : applyD m c is d = (applyN m c d, decide (c.n + d.n ≠ 0), true) := by unfold applyD; rw [if_pos hc]
    rw [ea]
    obtain ⟨_, hm, ⟨s0, s1⟩, ⟨f0, f1⟩, hmay⟩ := hc
    show applyD m (applyN m c d) (decide (c.n + d.n ≠ 0)) (negX d) = (c, is, true)
    have b0 : swap (applyN m c d).b0 (negX d).o0 (negX d).i0 = (c.b0, true) := swap_back s0
    have b1 : m = 2 → swap (applyN m c d).b1 (negX d).o1 (negX d).i1 = (c.b1, true) := fun hm2 => by
      show swap (if m = 2 then (swap c.b1 d.o1 d.i1).1 else []) d.i1 d.o1 = _
      rw [if_pos hm2]; exact swap_back (s1 hm2)
    have en : applyN m (applyN m c d) (negX d) = c := by
      obtain ⟨cn, cs0, cs1, cb0, cb1⟩ := c
      show Cell.mk (cn + d.n + -d.n) (cs0 + d.s0 + -d.s0) (if m = 2 then (if m = 2 then cs1 + d.s1 else 0) + -d.s1 else 0) (swap (applyN m _ d).b0 (negX d).o0 (negX d).i0).1 (if m = 2 then (swap (applyN m _ d).b1 (negX d).o1 (negX d).i1).1 else []) = _
      rw [b0]
      by_cases hm2 : m = 2
      · rw [if_pos hm2, if_pos hm2, if_pos hm2, b1 hm2]
        simp only [Cell.mk.injEq, and_true, true_and]; omega
      · rw [if_neg hm2, if_neg hm2]
        have := mayC_1 hm hm2
        simp only at this
        simp only [Cell.mk.injEq, and_true, true_and, this.1, this.2]; omega
    have ez : (applyN m c d).n + (negX d).n = c.n := by show c.n + d.n + -d.n = c.n; omega
    unfold applyD
    rw [if_pos ⟨goodD_neg hg, hmay, ⟨by rw [b0], fun hm2 => by rw [b1 hm2]⟩, ⟨by show in64 (c.s0 + d.s0 + -d.s0); rw [Int.add_neg_cancel_right]; exact h0, fun hm2 => by
      show in64 ((if m = 2 then c.s1 + d.s1 else 0) + -d.s1); rw [if_pos hm2, Int.add_neg_cancel_right]; exact h1⟩, by rw [en, ez, ← mayC_n hm]; exact hm⟩, en, ez, ← mayC_n hm]
  · cases ha
end Go.Bag
namespace Go.Proofs.Ytcmejdkjfekoeaa
open Go.Pl
set_option maxHeartbeats 4000000
def I64 (a : Int) : Prop := -9223372036854775808 ≤ a ∧ a ≤ 9223372036854775807
instance (a : Int) : Decidable (I64 a) := by unfold I64; infer_instance
def absI (a : Int) : Int := if a < 0 then -a else a
theorem C_Size (a : Int) (ha : I64 a) : PCallG Try.prog 119 [.c (.int .i64 a)] (.c (.int .u64 (absI a))) [] := by
  obtain ⟨h1, h2⟩ := ha
  refine pcallF Try.func119 c119 rfl ?_
  unfold p119 r119_0 r119_1 r119_2 r119_3
  by_cases h : a < 0
  · repeat' (first | refine w_seq ?_ | refine w_ops ?_ | refine st_nil ?_ | refine th_n ?_ | refine th_r ?_ | refine w_ret ?_ | refine w_true rfl ?_ | refine mv_c rfl ?_ | refine lss_t rfl rfl (by omega) ?_ | refine conv_u rfl ?_ | refine negu_ rfl ?_)
    refine fin_r rfl ?_
    have : -(a % 18446744073709551616) % 18446744073709551616 = -a := by omega
    simp [one_, absI, h, this]
  · repeat' (first | refine w_seq ?_ | refine w_ops ?_ | refine st_nil ?_ | refine th_n ?_ | refine w_skip ?_ | refine w_ret ?_ | refine w_false rfl ?_ | refine mv_c rfl ?_ | refine lss_f rfl rfl (by omega) ?_ | refine conv_in rfl (wrapu_in (by omega)) ?_)
    exact fin_r rfl (by simp [one_, absI, h])
theorem halves (x y : Int) (x0 x1 y0 y1 : Int) (hx : x = x1 * 4294967296 + x0) (hy : y = y1 * 4294967296 + y0) :
    x * y = (x1 * y1) * 18446744073709551616 + (x1 * y0) * 4294967296 + (x0 * y1) * 4294967296 + x0 * y0 := by
  subst hx hy
  simp only [Int.add_mul, Int.mul_add]
  have e1 : x1 * 4294967296 * (y1 * 4294967296) = (x1 * y1) * 18446744073709551616 := by
    rw [Int.mul_assoc, Int.mul_left_comm 4294967296 y1, ← Int.mul_assoc]; rfl
  have e2 : x1 * 4294967296 * y0 = (x1 * y0) * 4294967296 := by rw [Int.mul_assoc, Int.mul_comm 4294967296, ← Int.mul_assoc]
  have e3 : x0 * (y1 * 4294967296) = (x0 * y1) * 4294967296 := by rw [Int.mul_assoc]
  omega
theorem prod_le {a b m : Int} (ha : 0 ≤ a) (ha' : a ≤ m) (hb : 0 ≤ b) (hb' : b ≤ m) : 0 ≤ a * b ∧ a * b ≤ m * m :=
  ⟨Int.mul_nonneg ha hb, Int.mul_le_mul ha' hb' hb (by omega)⟩
def mul64 (x y : Int) : CV := .tup [.int .u64 (x * y / 18446744073709551616), .int .u64 (x * y % 18446744073709551616)]
theorem C_Mul64 (x y : Int) (hx : 0 ≤ x ∧ x ≤ 18446744073709551615) (hy : 0 ≤ y ∧ y ≤ 18446744073709551615) : PCallG Try.prog 118 [.c (.int .u64 x), .c (.int .u64 y)] (.c (mul64 x y)) [] := by
  refine pcallF Try.func118 c118 rfl ?_
  unfold p118 r118_0 r118_1 r118_2 r118_3 r118_4 r118_5 r118_6 r118_7 r118_8 r118_9 r118_10 r118_11
  have e := halves x y (x % 4294967296) (x / 4294967296) (y % 4294967296) (y / 4294967296) (by omega) (by omega)
  have b00 := prod_le (a := x % 4294967296) (b := y % 4294967296) (m := 4294967295) (by omega) (by omega) (by omega) (by omega)
  have b10 := prod_le (a := x / 4294967296) (b := y % 4294967296) (m := 4294967295) (by omega) (by omega) (by omega) (by omega)
  have b01 := prod_le (a := x % 4294967296) (b := y / 4294967296) (m := 4294967295) (by omega) (by omega) (by omega) (by omega)
  have b11 := prod_le (a := x / 4294967296) (b := y / 4294967296) (m := 4294967295) (by omega) (by omega) (by omega) (by omega)
  have hp32 : (2 : Int) ^ 32 = 4294967296 := by decide
  have step : ∀ {C : CallP} {l : List POp} {s : PS} {K : PS → Prop} {d : Nat} {u v : PO} {a : Int}, s.ev u = .c (.int .u64 a) → s.ev v = .c (.int .u64 4294967295) → (0 ≤ a ∧ a ≤ 18446744073709551615) → wL C l (s.put d (.c (.int .u64 (a % 4294967296)))) K → wL C (⟨some d, .bin .and u v, none⟩ :: l) s K :=
    fun h1 h2 h3 h4 => and_mask 32 (by decide) (by decide) h1 h2 h3 (by rw [hp32]; exact h4)
  repeat' (first | refine step rfl rfl (by omega) ?_ | refine w_seq ?_ | refine w_ops ?_ | refine st_nil ?_ | refine th_n ?_ | refine w_ret ?_ | refine mv_c rfl ?_ | refine addu_in rfl rfl (by omega) ?_ | refine mulu_in rfl rfl (by first | assumption | omega) ?_ | refine shr_n (n := 32) (m := 4294967296) rfl rfl (by decide) (by decide) ?_ | refine mulu_ rfl rfl ?_)
  refine fin_r rfl ?_
  simp only [one_, mul64]
  generalize x * y = p at *
  generalize (x / 4294967296) * (y / 4294967296) = q11 at *
  generalize (x / 4294967296) * (y % 4294967296) = q10 at *
  generalize (x % 4294967296) * (y / 4294967296) = q01 at *
  generalize (x % 4294967296) * (y % 4294967296) = q00 at *
  congr 3
  omega
section
variable {C : CallP} {l : List POp} {s : PS} {K : PS → Prop} {d : Nat} {xs : List PO} {a b c : Int}
theorem adc_ (hx : evcs s xs = some [.int .u64 a, .int .u64 b, .int .u64 c]) (hc : 0 ≤ a ∧ 0 ≤ b ∧ 0 ≤ c ∧ c ≤ 1)
    (h : wL C l (s.put d (.c (.tup [.int .u64 ((a + b + c) % 18446744073709551616), .int .u64 ((a + b + c) / 18446744073709551616)]))) K) : wL C (⟨some d, .xf .adc xs, none⟩ :: l) s K :=
  xf_ hx (by simp only [xfC, if_pos hc]; rfl) h
theorem sbc_ (hx : evcs s xs = some [.int .u64 a, .int .u64 b, .int .u64 c]) (hc : 0 ≤ a ∧ 0 ≤ b ∧ b < 18446744073709551616 ∧ 0 ≤ c ∧ c ≤ 1)
    (h : ∀ bo : Int, (a < b + c ∧ bo = 1) ∨ (b + c ≤ a ∧ bo = 0) → wL C l (s.put d (.c (.tup [.int .u64 ((a - b - c) % 18446744073709551616), .int .u64 bo]))) K) : wL C (⟨some d, .xf .sbc xs, none⟩ :: l) s K :=
  xf_ hx (by have hc' : 0 ≤ a ∧ 0 ≤ b ∧ b < m64 ∧ 0 ≤ c ∧ c ≤ 1 := hc
             simp only [xfC, if_pos hc']; rfl) (h _ (by split <;> omega))
end
def W128 (z : Int) : Prop := -170141183460469231731687303715884105728 ≤ z ∧ z ≤ 170141183460469231731687303715884105727
def cellsW (z : Int) : List CV := [.int .i64 (z / 18446744073709551616), .int .u64 (z % 18446744073709551616)]
def encW (z : Int) : CV := .agg (cellsW z)
theorem encW_eq {z hi lo : Int} (h1 : hi = z / 18446744073709551616) (h2 : lo = z % 18446744073709551616) : CV.agg (cellsW z) = one_ [.agg [.int .i64 hi, .int .u64 lo]] := by
  subst h1 h2; rfl
theorem abs_prod (a b : Int) : absI a * absI b = if (a < 0) ≠ (b < 0) then -(a * b) else a * b := by
  unfold absI
  by_cases h1 : a < 0 <;> by_cases h2 : b < 0 <;> simp [h1, h2, Int.neg_mul, Int.mul_neg]
theorem absI_in {a : Int} (h : I64 a) : 0 ≤ absI a ∧ absI a ≤ 9223372036854775808 := by
  obtain ⟨h1, h2⟩ := h
  unfold absI; split <;> omega
theorem wrap_i64 (n : Int) : IntKind.i64.wrap n = (n + 9223372036854775808) % 18446744073709551616 - 9223372036854775808 := by
  simp [IntKind.wrap, IntKind.bits, IntKind.signed]
  omega
theorem C_Plus (z a b : Int) (hz : W128 z) (ha : I64 a) (hb : I64 b) (hr : W128 (z + a * b)) : PCallG Try.prog 90 [.c (encW z), .c (.int .i64 a), .c (.int .i64 b)] (.c (encW (z + a * b))) [] := by
  obtain ⟨hz1, hz2⟩ := hz
  obtain ⟨hr1, hr2⟩ := hr
  have hA := absI_in ha
  have hB := absI_in hb
  have hp := prod_le hA.1 hA.2 hB.1 hB.2
  have hab := abs_prod a b
  have hS1 := C_Size a ha
  have hS2 := C_Size b hb
  have hM := C_Mul64 (absI a) (absI b) (by omega) (by omega)
  unfold mul64 at hM
  generalize absI a * absI b = p at hp hab hM
  generalize a * b = q at hr1 hr2 hab
  refine pcallF Try.func90 c90 rfl ?_
  unfold p90 r90_0 r90_1 r90_2 r90_3 r90_4 r90_5 r90_6 r90_7 r90_8
  unfold encW
  have hx : (decide (a < 0) == decide (b < 0)) = true → p = q := fun e => by
    have e : (a < 0) = (b < 0) := by simpa using e
    simpa [e] using hab
  have hy : (decide (a < 0) == decide (b < 0)) = false → p = -q := fun e => by
    have e : ¬ ((a < 0) ↔ (b < 0)) := by simpa using e
    by_cases h1 : a < 0 <;> by_cases h2 : b < 0 <;> simp_all
  repeat' (first | refine call1 rfl hS1 ?_ | refine call1 rfl hS2 ?_ | refine call2 rfl rfl hM ?_ | refine adc_ rfl (by omega) ?_ | refine sbc_ rfl (by omega) (fun bo hbo => ?_) | refine w_seq ?_ | refine w_ops ?_ | refine st_nil ?_ | refine th_n ?_ | refine w_skip ?_ | refine w_ret ?_ | refine w_cond rfl (fun hc => ?_) (fun hc => ?_) | refine mv_c rfl ?_ | refine lss_ rfl rfl ?_ | refine neqB_ rfl rfl ?_ | refine conv_u rfl ?_ | refine alloc_ (fun u => ?_) | refine box_ rfl rfl rfl (fun u => ?_) | refine build_ rfl rfl ?_ | refine load_ptr rfl (by decide) rfl (Nat.le_of_ble_eq_true rfl) rfl ?_ | refine store_ptr rfl rfl (by decide) rfl rfl (Nat.le_of_ble_eq_true rfl) rfl ?_ | refine fad_ptr rfl rfl rfl ?_ | refine ext_ rfl rfl ?_ | refine conv_ rfl ?_)
  · have hpq := hy (by simpa using hc)
    refine fin_r (rv_cell rfl rfl rfl rfl rv_nil) ?_
    refine encW_eq ?_ ?_
    · rw [wrap_i64]; omega
    · omega
  · have hpq := hx (by simpa using hc)
    refine fin_r (rv_cell rfl rfl rfl rfl rv_nil) ?_
    refine encW_eq ?_ ?_
    · rw [wrap_i64]; omega
    · omega
theorem C_Int (z : Int) (hz : W128 z) : PCallG Try.prog 89 [.c (encW z)] (.c (if I64 z then .tup [.int .i64 z, .bool true] else .tup [.int .i64 0, .bool false])) [] := by
  obtain ⟨hz1, hz2⟩ := hz
  refine pcallF Try.func89 c89 rfl ?_
  unfold p89 r89_0 r89_1 r89_2 r89_3 r89_4
  unfold encW
  have hw : IntKind.i64.wrap (z % 18446744073709551616) = z ∨ ¬ I64 z := by
    rw [wrap_i64]; unfold I64; omega
  by_cases h : z % 18446744073709551616 < 9223372036854775808
  all_goals
    repeat' (first | refine w_seq ?_ | refine w_ops ?_ | refine st_nil ?_ | refine th_n ?_ | refine th_r ?_ | refine w_skip ?_ | refine w_ret ?_ | refine w_condd rfl (fun hc => ?_) (fun hc => ?_) | refine mv_c rfl ?_ | refine ned_ rfl rfl ?_ | refine shr_n (n := 63) (m := 9223372036854775808) rfl rfl (by decide) (by decide) ?_ | refine conv_in rfl (wrap64_in (by omega)) ?_ | refine conv_s rfl (wrap64_hi (by omega)) ?_ | refine box_ rfl rfl rfl (fun u => ?_) | refine load_ptr rfl (by decide) rfl (Nat.le_of_ble_eq_true rfl) rfl ?_ | refine fad_ptr rfl rfl rfl ?_)
  all_goals
    refine fin_r rfl ?_
    simp only [one_]
    by_cases hI : I64 z
    · rw [if_pos hI]
      unfold I64 at hI
      first | (exfalso; omega) | (congr 3; omega)
    · first
        | (rw [if_neg hI]; done)
        | (exfalso; unfold I64 at hI; omega)
end Go.Proofs.Ytcmejdkjfekoeaa
namespace Go.Proofs.Ytcmejdkjfekoeaa
open Go.Pl
set_option maxHeartbeats 4000000
theorem C_rSize (a : Int) (ha : I64 a) : PCallG Try.prog 123 [.c (.int .i64 a)] (.c (.int .u64 (absI a))) [] := by
  obtain ⟨h1, h2⟩ := ha
  refine pcallF Try.func123 c123 rfl ?_
  unfold p123 r123_0 r123_1 r123_2 r123_3
  by_cases h : a < 0
  · repeat' (first | refine w_seq ?_ | refine w_ops ?_ | refine st_nil ?_ | refine th_n ?_ | refine th_r ?_ | refine w_ret ?_ | refine w_true rfl ?_ | refine mv_c rfl ?_ | refine lss_t rfl rfl (by omega) ?_ | refine addu_in rfl rfl (by omega) ?_ | refine conv_in rfl (wrapu_in (by omega)) ?_ | refine neg_in rfl (by omega) ?_ | refine add_in rfl rfl (by omega) ?_)
    refine fin_r rfl ?_
    simp only [one_, absI, if_pos h]
    congr 1
    omega
  · repeat' (first | refine w_seq ?_ | refine w_ops ?_ | refine st_nil ?_ | refine th_n ?_ | refine w_skip ?_ | refine w_ret ?_ | refine w_false rfl ?_ | refine mv_c rfl ?_ | refine lss_f rfl rfl (by omega) ?_ | refine conv_in rfl (wrapu_in (by omega)) ?_)
    exact fin_r rfl (by simp [one_, absI, h])
theorem or_low {C : CallP} {l : List POp} {s : PS} {K : PS → Prop} {d : Nat} {x y : PO} {a b : Int} (hx : s.ev x = .c (.int .u64 a)) (hy : s.ev y = .c (.int .u64 b)) (ha : 0 ≤ a ∧ a ≤ 18446744069414584320) (hm : a % 4294967296 = 0) (hb : 0 ≤ b ∧ b < 4294967296)
    (h : wL C l (s.put d (.c (.int .u64 (a + b)))) K) : wL C (⟨some d, .bin .or x y, none⟩ :: l) s K := by
  refine bin_ hx hy ?_ h
  obtain ⟨A, rfl⟩ := Int.eq_ofNat_of_zero_le ha.1
  obtain ⟨B, rfl⟩ := Int.eq_ofNat_of_zero_le hb.1
  have h1 : A % 2 ^ 64 = A := Nat.mod_eq_of_lt (by omega)
  have h2 : B % 2 ^ 64 = B := Nat.mod_eq_of_lt (by omega)
  have h3 : A = 2 ^ 32 * (A / 4294967296) := by omega
  have e : ((BitVec.ofInt 64 (A : Int)) ||| BitVec.ofInt 64 (B : Int)).toNat = A + B := by
    rw [BitVec.ofInt_natCast, BitVec.ofInt_natCast, BitVec.toNat_or, BitVec.toNat_ofNat, BitVec.toNat_ofNat, h1, h2]
    rw [h3, ← Nat.two_pow_add_eq_or_of_lt (by omega)]
  show some (CV.int .u64 (IntKind.u64.wrap (((BitVec.ofInt 64 (A : Int)) ||| BitVec.ofInt 64 (B : Int)).toNat : Nat))) = _
  rw [e, wrapu_in (by omega)]
  simp
def cellsV (z : Int) : List CV := [.bool (decide (z < 0)), .int .u64 (absI z / 18446744073709551616), .int .u64 (absI z % 18446744073709551616)]
theorem cellsV_eq {z hi lo : Int} {neg : Bool} (h1 : neg = decide (z < 0)) (h2 : hi = absI z / 18446744073709551616) (h3 : lo = absI z % 18446744073709551616) : CV.agg (cellsV z) = one_ [.agg [.bool neg, .int .u64 hi, .int .u64 lo]] := by
  subst h1 h2 h3; rfl
theorem C_rTimes (a b : Int) (ha : I64 a) (hb : I64 b) : PCallG Try.prog 100 [.c (.int .i64 a), .c (.int .i64 b)] (.c (.agg (cellsV (a * b)))) [] := by
  have hA := absI_in ha
  have hB := absI_in hb
  have hS1 := C_rSize a ha
  have hS2 := C_rSize b hb
  have hab := abs_prod a b
  generalize absI a = x at *
  generalize absI b = y at *
  have hp0 : 0 ≤ x * y := Int.mul_nonneg hA.1 hB.1
  have hq : absI (a * b) = x * y := by
    unfold absI
    split at hab <;> split <;> omega
  have hneg : x * y ≠ 0 → (!(decide (a < 0) == decide (b < 0))) = decide (a * b < 0) := fun hne => by
    by_cases h1 : a < 0 <;> by_cases h2 : b < 0 <;> simp [h1, h2] at hab ⊢ <;> omega
  have hneg0 : x * y = 0 → false = decide (a * b < 0) := fun h0 => by
    have : ¬ a * b < 0 := by split at hab <;> omega
    simp [this]
  have e := halves x y (x % 4294967296) (x / 4294967296) (y % 4294967296) (y / 4294967296) (by omega) (by omega)
  have b00 := prod_le (a := x % 4294967296) (b := y % 4294967296) (m := 4294967295) (by omega) (by omega) (by omega) (by omega)
  have b10 := prod_le (a := x / 4294967296) (b := y % 4294967296) (m := 4294967295) (by omega) (by omega) (by omega) (by omega)
  have b01 := prod_le (a := x % 4294967296) (b := y / 4294967296) (m := 4294967295) (by omega) (by omega) (by omega) (by omega)
  have b11 := prod_le (a := x / 4294967296) (b := y / 4294967296) (m := 4294967295) (by omega) (by omega) (by omega) (by omega)
  have hp32 : (2 : Int) ^ 32 = 4294967296 := by decide
  have step : ∀ {C : CallP} {l : List POp} {s : PS} {K : PS → Prop} {d : Nat} {u v : PO} {a : Int}, s.ev u = .c (.int .u64 a) → s.ev v = .c (.int .u64 4294967295) → (0 ≤ a ∧ a ≤ 18446744073709551615) → wL C l (s.put d (.c (.int .u64 (a % 4294967296)))) K → wL C (⟨some d, .bin .and u v, none⟩ :: l) s K :=
    fun h1 h2 h3 h4 => and_mask 32 (by decide) (by decide) h1 h2 h3 (by rw [hp32]; exact h4)
  refine pcallF Try.func100 c100 rfl ?_
  unfold p100 r100_0 r100_1 r100_2 r100_3 r100_4 r100_5 r100_6 r100_7
  repeat' (first | refine call1 rfl hS1 ?_ | refine call1 rfl hS2 ?_ | refine step rfl rfl (by omega) ?_ | refine shl_n (n := 32) (m := 4294967296) rfl rfl (by decide) (by decide) ?_ | refine or_low rfl rfl (by omega) (by omega) (by omega) ?_ | refine w_seq ?_ | refine w_ops ?_ | refine st_nil ?_ | refine th_n ?_ | refine w_skip ?_ | refine w_ret ?_ | refine w_false rfl ?_ | refine w_condd rfl (fun hc => ?_) (fun hc => ?_) | refine g_yes rfl ?_ | refine g_no rfl ?_ | refine g_splitd rfl (fun hg => ?_) (fun hg => ?_) | refine mv_c rfl ?_ | refine pick_t rfl rfl ?_ | refine pick_f rfl rfl ?_ | refine lss_ rfl rfl ?_ | refine eqd_ rfl rfl ?_ | refine neqB_ rfl rfl ?_ | refine addu_in rfl rfl (by omega) ?_ | refine mulu_in rfl rfl (by first | assumption | omega) ?_ | refine shr_n (n := 32) (m := 4294967296) rfl rfl (by decide) (by decide) ?_ | refine alloc_ (fun u => ?_) | refine build_ rfl rfl ?_ | refine load_ptr rfl (by decide) rfl (Nat.le_of_ble_eq_true rfl) rfl ?_ | refine store_ptr rfl rfl (by decide) rfl rfl (Nat.le_of_ble_eq_true rfl) rfl ?_ | refine fad_ptr rfl rfl rfl ?_)
  all_goals
    refine fin_r (rv_cell rfl rfl rfl rfl rv_nil) ?_
    refine cellsV_eq ?_ ?_ ?_
    · first
        | exact hneg (by omega)
        | exact hneg0 (by omega)
    · rw [hq]; omega
    · rw [hq]; omega
end Go.Proofs.Ytcmejdkjfekoeaa

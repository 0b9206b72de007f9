/-
  BAGS, PLAIN, the fifth part: what the functions compute is true. A bag is told by how often each value is there. My own work.
-/
import Derived.Test.YtcmejdkjfekoeaaMBag3
import Derived.Test.YtcmejdkjfekoeaaMBag4
namespace Go.Bag
open Go.Pl

/-- in order, no value twice -/
def asc (l : List Run) : Prop := l.Pairwise fun r s => r.1 < s.1

/-- how often, all runs of it together -/
def cnt : List Run → Int → Int
  | [], _ => 0
  | r :: l, v => (if r.1 = v then r.2 else 0) + cnt l v

theorem cnt_append : ∀ (l k : List Run) (v : Int), cnt (l ++ k) v = cnt l v + cnt k v
  | [], k, v => by simp [cnt]
  | r :: l, k, v => by simp only [List.cons_append, cnt, cnt_append l k v]; omega

theorem cnt_none : ∀ {l : List Run} {v : Int}, (∀ r ∈ l, r.1 ≠ v) → cnt l v = 0
  | [], _, _ => rfl
  | r :: l, v, h => by simp [cnt, h r (by simp), cnt_none (l := l) (v := v) fun q hq => h q (by simp [hq])]

theorem cnt_nonneg : ∀ {l : List Run} (v : Int), pos l → 0 ≤ cnt l v
  | [], _, _ => by simp [cnt]
  | r :: l, v, h => by
    have := h r (by simp)
    have := cnt_nonneg (l := l) v fun q hq => h q (by simp [hq])
    simp only [cnt]; split <;> omega

theorem cnt_pos : ∀ {l : List Run} {r : Run}, pos l → r ∈ l → r.2 ≤ cnt l r.1
  | [], r, _, hr => by simp at hr
  | q :: l, r, h, hr => by
    have hp : pos l := fun q hq => h q (by simp [hq])
    have h1 := h q (by simp)
    rcases List.mem_cons.mp hr with rfl | hr
    · have := cnt_nonneg r.1 hp
      simp only [cnt, if_true]; omega
    · have := cnt_pos hp hr
      simp only [cnt]; split <;> omega

theorem asc_cons {r : Run} {l : List Run} : asc (r :: l) ↔ (∀ q ∈ l, r.1 < q.1) ∧ asc l := by simp [asc]

/-- two bags that have each value as often are one -/
theorem ext : ∀ {a b : List Run}, asc a → asc b → pos a → pos b → (∀ v, cnt a v = cnt b v) → a = b
  | [], [], _, _, _, _, _ => rfl
  | [], s :: b, _, _, _, hb, h => by
    have := cnt_pos hb (r := s) (by simp)
    have h1 := h s.1
    have := hb s (by simp)
    simp only [cnt] at h1 this
    simp only [cnt] at *
    omega
  | r :: a, [], _, _, ha, _, h => by
    have := cnt_pos ha (r := r) (by simp)
    have h1 := h r.1
    have := ha r (by simp)
    simp only [cnt] at *
    omega
  | r :: a, s :: b, ra, sb, ha, hb, h => by
    obtain ⟨h1, h2⟩ := asc_cons.mp ra
    obtain ⟨h3, h4⟩ := asc_cons.mp sb
    have pr := ha r (by simp)
    have ps := hb s (by simp)
    have pa : pos a := fun q hq => ha q (by simp [hq])
    have pb : pos b := fun q hq => hb q (by simp [hq])
    have e : r.1 = s.1 := by
      rcases Int.lt_trichotomy r.1 s.1 with hlt | he | hlt
      · have := h r.1
        have z1 : cnt (s :: b) r.1 = 0 := cnt_none fun q hq => by
          rcases List.mem_cons.mp hq with rfl | hq
          · omega
          · have := h3 q hq; omega
        have := cnt_pos ha (r := r) (by simp)
        omega
      · exact he
      · have := h s.1
        have z1 : cnt (r :: a) s.1 = 0 := cnt_none fun q hq => by
          rcases List.mem_cons.mp hq with rfl | hq
          · omega
          · have := h1 q hq; omega
        have := cnt_pos hb (r := s) (by simp)
        omega
    have ea : cnt a r.1 = 0 := cnt_none fun q hq => by have := h1 q hq; omega
    have eb : cnt b s.1 = 0 := cnt_none fun q hq => by have := h3 q hq; omega
    have e2 : r.2 = s.2 := by
      have := h r.1
      simp only [cnt, e, if_true] at this
      rw [e] at ea
      omega
    have er : r = s := Prod.ext e e2
    subst er
    rw [ext (a := a) (b := b) h2 h4 pa pb fun v => by
      have := h v
      simp only [cnt] at this
      omega]

/-! ### may be -/
theorem goodFrom_asc : ∀ {l : List Run} {p : Option Int} {s : Int}, goodFrom p s l = true → asc l ∧ ∀ a, p = some a → ∀ r ∈ l, a < r.1
  | [], p, s, _ => ⟨by simp [asc], fun a _ r hr => by simp at hr⟩
  | r :: l, p, s, h => by
    simp only [goodFrom, Bool.and_eq_true, Bool.not_eq_true', decide_eq_false_iff_not] at h
    obtain ⟨⟨⟨h0, h1⟩, h2⟩, h3⟩ := h
    obtain ⟨g1, g2⟩ := goodFrom_asc h3
    refine ⟨asc_cons.mpr ⟨g2 r.1 rfl, g1⟩, fun a ha q hq => ?_⟩
    subst ha
    have h0' : a < r.1 := by simpa using h0
    rcases List.mem_cons.mp hq with rfl | hq
    · exact h0'
    · have := g2 r.1 rfl q hq; omega

theorem goodFrom_mk : ∀ {l : List Run} {p : Option Int} {s : Int}, asc l → pos l → s + sum l ≤ cap → (∀ a, p = some a → ∀ r ∈ l, a < r.1) → goodFrom p s l = true
  | [], _, _, _, _, _, _ => rfl
  | r :: l, p, s, ha, hp, hs, hf => by
    obtain ⟨h1, h2⟩ := asc_cons.mp ha
    have hpl : pos l := fun q hq => hp q (by simp [hq])
    have := sum_nonneg hpl
    have h3 := hp r (by simp)
    simp only [sum] at hs
    have h4 : (p.any fun a => decide (r.1 ≤ a)) = false := by
      cases p with
      | none => rfl
      | some a =>
        have := hf a rfl r (by simp)
        simp; omega
    simp only [goodFrom, h4, Bool.not_false, Bool.true_and, Bool.and_eq_true, Bool.not_eq_true', decide_eq_false_iff_not]
    refine ⟨⟨by omega, by omega⟩, goodFrom_mk h2 hpl (by omega) fun a ha q hq => ?_⟩
    cases ha
    exact h1 q hq

theorem good_iff {l : List Run} : good l = true ↔ asc l ∧ pos l ∧ sum l ≤ cap := by
  constructor
  · intro h
    exact ⟨(goodFrom_asc h).1, good_facts h⟩
  · intro ⟨h1, h2, h3⟩
    exact goodFrom_mk h1 h2 (by simpa using h3) fun a ha => by cases ha

theorem has_cnt : ∀ {l : List Run} (v : Int), asc l → has l v = cnt l v
  | [], v, _ => by simp [has, cnt]
  | r :: l, v, h => by
    obtain ⟨h1, h2⟩ := asc_cons.mp h
    have ih := has_cnt (l := l) v h2
    by_cases e : r.1 = v
    · have : cnt l v = 0 := cnt_none fun q hq => by have := h1 q hq; omega
      simp [has, cnt, e, this]
    · simp only [has, List.find?_cons] at ih ⊢
      have : (r.1 == v) = false := by simpa using e
      simp only [this, cnt, if_neg e, ih]; omega

/-! ### a value more -/
/-- nothing is above 'v' -/
def upto (v : Int) (l : List Run) : Prop := ∀ r ∈ l, r.1 ≤ v

theorem moreL_cnt (l : List Run) (v n u : Int) : cnt (moreL l v n) u = cnt l u + if v = u then n else 0 := by
  rcases snoc_cases l with rfl | ⟨k, r, rfl⟩
  · simp [moreL_nil, cnt]
  · by_cases hv : r.1 = v
    · subst hv; rw [moreL_eq, cnt_append, cnt_append]; simp only [cnt]; split <;> omega
    · rw [moreL_ne _ _ _ _ hv, cnt_append]; simp only [cnt]; omega

theorem asc_snoc {l : List Run} {r : Run} : asc (l ++ [r]) ↔ asc l ∧ ∀ q ∈ l, q.1 < r.1 := by
  simp [asc, List.pairwise_append]

theorem moreL_asc {l : List Run} {v n : Int} (h : asc l) (hu : upto v l) : asc (moreL l v n) := by
  rcases snoc_cases l with rfl | ⟨k, r, rfl⟩
  · simp [moreL_nil, asc]
  · by_cases hv : r.1 = v
    · subst hv; rw [moreL_eq]; exact asc_snoc.mpr ⟨(asc_snoc.mp h).1, fun q hq => (asc_snoc.mp h).2 q hq⟩
    · rw [moreL_ne _ _ _ _ hv]
      have h1 := hu r (by simp)
      refine asc_snoc.mpr ⟨h, fun q hq => ?_⟩
      rcases List.mem_append.mp hq with hq | hq
      · have := (asc_snoc.mp h).2 q hq
        show q.1 < v
        omega
      · simp at hq; subst hq; show q.1 < v; omega

theorem moreL_upto {l : List Run} {v n : Int} (hu : upto v l) : upto v (moreL l v n) := by
  rcases snoc_cases l with rfl | ⟨k, r, rfl⟩
  · intro q hq; simp [moreL_nil] at hq; subst hq; exact Int.le_refl _
  · by_cases hv : r.1 = v
    · subst hv; rw [moreL_eq]
      intro q hq
      rcases List.mem_append.mp hq with hq | hq
      · exact hu q (by simp [hq])
      · simp at hq; subst hq; exact Int.le_refl _
    · rw [moreL_ne _ _ _ _ hv]
      intro q hq
      rcases List.mem_append.mp hq with hq | hq
      · exact hu q hq
      · simp at hq; subst hq; exact Int.le_refl _

theorem upto_le {l : List Run} {v u : Int} (h : upto v l) (hv : v ≤ u) : upto u l := fun r hr => by have := h r hr; omega

/-! ### all of two -/
theorem merge_facts : ∀ (m : Nat) (out a b : List Run), a.length + b.length = m → asc out → asc a → asc b → pos out → pos a → pos b → (∀ r ∈ a, upto r.1 out) → (∀ r ∈ b, upto r.1 out) →
    asc (merge out a b) ∧ pos (merge out a b) ∧ (∀ v, cnt (merge out a b) v = cnt out v + cnt a v + cnt b v) ∧ sum (merge out a b) = sum out + sum a + sum b := by
  intro m
  induction m with
  | zero =>
    intro out a b hm ho ha hb po pa pb ua ub
    obtain rfl : a = [] := List.eq_nil_of_length_eq_zero (by omega)
    obtain rfl : b = [] := List.eq_nil_of_length_eq_zero (by omega)
    simp [merge, cnt, sum, ho, po]
  | succ m ih =>
    intro out a b hm ho ha hb po pa pb ua ub
    have tail : ∀ {r : Run} {l : List Run}, asc (r :: l) → pos (r :: l) → asc l ∧ pos l ∧ 1 ≤ r.2 ∧ ∀ q ∈ l, r.1 < q.1 := fun h k =>
      ⟨(asc_cons.mp h).2, fun q hq => k q (by simp [hq]), k _ (by simp), (asc_cons.mp h).1⟩
    match a, b, hm with
    | [], s :: b, hm =>
      obtain ⟨h1, h2, h3, h4⟩ := tail hb pb
      have hu := ub s (by simp)
      have := ih (moreL out s.1 s.2) [] b (by simpa using hm) (moreL_asc ho hu) ha h1 (moreL_pos po h3) pa h2 (fun r hr => by simp at hr)
        (fun r hr => upto_le (moreL_upto hu) (by have := h4 r hr; omega))
      rw [show merge out [] (s :: b) = merge (moreL out s.1 s.2) [] b by simp only [merge]]
      refine ⟨this.1, this.2.1, fun v => ?_, ?_⟩
      · rw [this.2.2.1, moreL_cnt]; simp only [cnt]; omega
      · rw [this.2.2.2, moreL_sum]; simp only [sum]; omega
    | r :: a, [], hm =>
      obtain ⟨h1, h2, h3, h4⟩ := tail ha pa
      have hu := ua r (by simp)
      have := ih (moreL out r.1 r.2) a [] (by simpa using hm) (moreL_asc ho hu) h1 hb (moreL_pos po h3) h2 pb
        (fun q hq => upto_le (moreL_upto hu) (by have := h4 q hq; omega)) (fun r hr => by simp at hr)
      rw [show merge out (r :: a) [] = merge (moreL out r.1 r.2) a [] by simp only [merge]]
      refine ⟨this.1, this.2.1, fun v => ?_, ?_⟩
      · rw [this.2.2.1, moreL_cnt]; simp only [cnt]; omega
      · rw [this.2.2.2, moreL_sum]; simp only [sum]; omega
    | r :: a, s :: b, hm =>
      obtain ⟨h1, h2, h3, h4⟩ := tail ha pa
      obtain ⟨k1, k2, k3, k4⟩ := tail hb pb
      by_cases hlt : s.1 < r.1
      · have hu := ub s (by simp)
        have := ih (moreL out s.1 s.2) (r :: a) b (by simp at hm ⊢; omega) (moreL_asc ho hu) ha k1 (moreL_pos po k3) pa k2
          (fun q hq => upto_le (moreL_upto hu) (by
            rcases List.mem_cons.mp hq with rfl | hq
            · omega
            · have := h4 q hq; omega))
          (fun q hq => upto_le (moreL_upto hu) (by have := k4 q hq; omega))
        rw [show merge out (r :: a) (s :: b) = merge (moreL out s.1 s.2) (r :: a) b by rw [merge]; simp [hlt]]
        refine ⟨this.1, this.2.1, fun v => ?_, ?_⟩
        · rw [this.2.2.1, moreL_cnt]; simp only [cnt]; omega
        · rw [this.2.2.2, moreL_sum]; simp only [sum]; omega
      · have hu := ua r (by simp)
        have := ih (moreL out r.1 r.2) a (s :: b) (by simp at hm ⊢; omega) (moreL_asc ho hu) h1 hb (moreL_pos po h3) h2 pb
          (fun q hq => upto_le (moreL_upto hu) (by have := h4 q hq; omega))
          (fun q hq => upto_le (moreL_upto hu) (by
            rcases List.mem_cons.mp hq with rfl | hq
            · omega
            · have := k4 q hq; omega))
        rw [show merge out (r :: a) (s :: b) = merge (moreL out r.1 r.2) a (s :: b) by rw [merge]; simp [hlt]]
        refine ⟨this.1, this.2.1, fun v => ?_, ?_⟩
        · rw [this.2.2.1, moreL_cnt]; simp only [cnt]; omega
        · rw [this.2.2.2, moreL_sum]; simp only [sum]; omega

/-! ### one without the other -/
theorem minusL_facts : ∀ (a out b o k : List Run), minusL out a b = some (o, k) → asc out → asc a → asc b → pos out → pos a → pos b → (∀ r ∈ a, ∀ q ∈ out, q.1 < r.1) →
    asc o ∧ pos o ∧ (∀ r ∈ k, r ∈ b) ∧ (∀ v, cnt o v + cnt b v = cnt out v + cnt a v + cnt k v)
  | [], out, b, o, k, h, ho, ha, hb, po, pa, pb, hu => by
    simp only [minusL] at h
    obtain ⟨rfl, rfl⟩ := Prod.mk.inj (Option.some.inj h)
    exact ⟨ho, po, fun r hr => hr, fun v => by simp [cnt]⟩
  | r :: a, out, b, o, k, h, ho, ha, hb, po, pa, pb, hu => by
    obtain ⟨h1, h2⟩ := asc_cons.mp ha
    have pa' : pos a := fun q hq => pa q (by simp [hq])
    have pr := pa r (by simp)
    simp only [minusL] at h
    split at h
    · cases h
    · rename_i hge
      -- what is taken of 'b'
      have tk : asc (takeB r b).2 ∧ pos (takeB r b).2 ∧ (∀ q ∈ (takeB r b).2, q ∈ b) ∧ ∀ v, cnt (takeB r b).2 v = cnt b v - if r.1 = v then r.2 - (takeB r b).1 else 0 := by
        cases b with
        | nil => simp [takeB, asc, pos, cnt]
        | cons s b =>
          obtain ⟨k1, k2⟩ := asc_cons.mp hb
          by_cases e : s.1 = r.1
          · simp only [takeB, if_pos e]
            refine ⟨k2, fun q hq => pb q (by simp [hq]), fun q hq => by simp [hq], fun v => ?_⟩
            simp only [cnt, e]; split <;> omega
          · simp only [takeB, if_neg e]
            exact ⟨hb, pb, fun q hq => hq, fun v => by simp⟩
      obtain ⟨t1, t2, t3, t4⟩ := tk
      by_cases hp : 0 < (takeB r b).1
      · rw [if_pos hp] at h
        have hur : ∀ q ∈ out, q.1 < r.1 := hu r (by simp)
        have := minusL_facts a (out ++ [(r.1, (takeB r b).1)]) _ o k h (asc_snoc.mpr ⟨ho, hur⟩) h2 t1
          (fun q hq => by
            rcases List.mem_append.mp hq with hq | hq
            · exact po q hq
            · simp at hq; subst hq; show 1 ≤ (takeB r b).1; omega) pa' t2
          (fun q hq p hp => by
            rcases List.mem_append.mp hp with hp | hp
            · exact hu q (by simp [hq]) p hp
            · simp at hp; subst hp; exact h1 q hq)
        refine ⟨this.1, this.2.1, fun q hq => t3 q (this.2.2.1 q hq), fun v => ?_⟩
        have h5 := this.2.2.2 v
        rw [t4, cnt_append] at h5
        simp only [cnt] at h5 ⊢
        split at h5 <;> simp_all <;> omega
      · rw [if_neg hp] at h
        have h0 : (takeB r b).1 = 0 := by omega
        have := minusL_facts a out _ o k h ho h2 t1 po pa' t2 (fun q hq p hp => hu q (by simp [hq]) p hp)
        refine ⟨this.1, this.2.1, fun q hq => t3 q (this.2.2.1 q hq), fun v => ?_⟩
        have h5 := this.2.2.2 v
        rw [t4, h0] at h5
        simp only [cnt] at h5 ⊢
        split at h5 <;> simp_all <;> omega

/-- all of 'b' is in 'a' -/
def sub (b a : List Run) : Prop := ∀ v, cnt b v ≤ cnt a v

theorem minusL_cons (out : List Run) (r : Run) (a b : List Run) : minusL out (r :: a) b = if (takeB r b).1 < 0 then none else minusL (if 0 < (takeB r b).1 then out ++ [(r.1, (takeB r b).1)] else out) a (takeB r b).2 := by
  simp only [minusL]

/-- nothing is left, where all of it was there -/
theorem minusL_ok : ∀ (a out b : List Run), asc a → asc b → pos a → pos b → sub b a → ∃ o, minusL out a b = some (o, [])
  | [], out, b, ha, hb, pa, pb, h => by
    cases b with
    | nil => exact ⟨out, rfl⟩
    | cons s b =>
      have := h s.1
      have h1 := cnt_pos pb (r := s) (by simp)
      have h2 := pb s (by simp)
      have h3 : cnt [] s.1 = 0 := rfl
      omega
  | r :: a, out, b, ha, hb, pa, pb, h => by
    obtain ⟨h1, h2⟩ := asc_cons.mp ha
    have pa' : pos a := fun q hq => pa q (by simp [hq])
    have ea : cnt a r.1 = 0 := cnt_none fun q hq => by have := h1 q hq; omega
    cases b with
    | nil =>
      have pr := pa r (by simp)
      rw [minusL_cons, show takeB r [] = (r.2, []) from rfl, if_neg (by show ¬ r.2 < 0; omega)]
      exact minusL_ok a _ [] h2 hb pa' pb fun v => by simpa [cnt] using cnt_nonneg v pa'
    | cons s b =>
      obtain ⟨k1, k2⟩ := asc_cons.mp hb
      have pb' : pos b := fun q hq => pb q (by simp [hq])
      have ps := pb s (by simp)
      by_cases e : s.1 = r.1
      · have hs : s.2 ≤ r.2 := by
          have := h s.1
          have eb : cnt b s.1 = 0 := cnt_none fun q hq => by have := k1 q hq; omega
          rw [← e] at ea
          simp only [cnt, ea, eb, e, if_true] at this
          rw [e] at eb ea
          omega
        rw [minusL_cons, show takeB r (s :: b) = (r.2 - s.2, b) by simp [takeB, e], if_neg (by show ¬ r.2 - s.2 < 0; omega)]
        refine minusL_ok a _ b h2 k2 pa' pb' fun v => ?_
        have := h v
        simp only [cnt, e] at this
        by_cases ev : r.1 = v
        · subst ev
          have eb : cnt b r.1 = 0 := cnt_none fun q hq => by have := k1 q hq; omega
          rw [ea, eb]; exact Int.le_refl _
        · simpa [ev] using this
      · have pr := pa r (by simp)
        rw [minusL_cons, show takeB r (s :: b) = (r.2, s :: b) by simp [takeB, e], if_neg (by show ¬ r.2 < 0; omega)]
        refine minusL_ok a _ (s :: b) h2 hb pa' pb fun v => ?_
        have := h v
        by_cases ev : r.1 = v
        · subst ev
          -- 's' is above 'r', or it is not there at all
          have hlt : r.1 < s.1 := by
            rcases Int.lt_or_le r.1 s.1 with h5 | h5
            · exact h5
            · exfalso
              have z : cnt (r :: a) s.1 = 0 := cnt_none fun q hq => by
                rcases List.mem_cons.mp hq with rfl | hq
                · omega
                · have := h1 q hq; omega
              have := h s.1
              have := cnt_pos pb (r := s) (by simp)
              omega
          have z : cnt (s :: b) r.1 = 0 := cnt_none fun q hq => by
            rcases List.mem_cons.mp hq with rfl | hq
            · omega
            · have := k1 q hq; omega
          rw [z]; exact cnt_nonneg _ pa'
        · simpa [cnt, ev] using this

theorem minus_facts {a b : List Run} (ga : good a = true) (gb : good b = true) (h : sub b a) : ∃ o, minus a b = (o, true) ∧ asc o ∧ pos o ∧ ∀ v, cnt o v = cnt a v - cnt b v := by
  obtain ⟨a1, a2, a3⟩ := good_iff.mp ga
  obtain ⟨b1, b2, b3⟩ := good_iff.mp gb
  obtain ⟨o, ho⟩ := minusL_ok a [] b a1 b1 a2 b2 h
  have := minusL_facts a [] b o [] ho (by simp [asc]) a1 b1 (fun q hq => by simp at hq) a2 b2 (fun r _ q hq => by simp at hq)
  refine ⟨o, by simp [minus, ga, gb, ho], this.1, this.2.1, fun v => ?_⟩
  have := this.2.2.2 v
  simp only [cnt] at this
  omega

/-- .. and where not, it is told -/
theorem minus_no {a b : List Run} (h : ¬ sub b a) : minus a b = ([], false) := by
  unfold minus
  split
  · rename_i hg
    obtain ⟨a1, a2, a3⟩ := good_iff.mp hg.1
    obtain ⟨b1, b2, b3⟩ := good_iff.mp hg.2
    split
    · rename_i o ho
      have := minusL_facts a [] b o [] ho (by simp [asc]) a1 b1 (fun q hq => by simp at hq) a2 b2 (fun r _ q hq => by simp at hq)
      exact absurd (fun v => by
        have h1 := this.2.2.2 v
        have h2 := cnt_nonneg v this.2.1
        simp only [cnt] at h1
        omega) h
    · rfl
  · rfl

/-! ### the bag of values -/
def ofS : List Run → List Int → List Run
  | out, [] => out
  | out, v :: l => ofS (moreL out v 1) l

def srt (l : List Int) : List Int := l.mergeSort fun x y => decide (x ≤ y)

def ofL (l : List Int) : List Run := ofS [] (srt l)

def num (l : List Int) (v : Int) : Int := (l.count v : Nat)

theorem num_nil (v : Int) : num [] v = 0 := rfl
theorem num_cons (x : Int) (l : List Int) (v : Int) : num (x :: l) v = num l v + if x = v then 1 else 0 := by
  simp only [num, List.count_cons]
  by_cases h : x = v
  · simp [h]
  · simp [h]

theorem ofS_facts : ∀ (l : List Int) (out : List Run), l.Pairwise (· ≤ ·) → asc out → pos out → (∀ v ∈ l, upto v out) →
    asc (ofS out l) ∧ pos (ofS out l) ∧ (∀ v, cnt (ofS out l) v = cnt out v + num l v) ∧ sum (ofS out l) = sum out + l.length ∧ (ofS out l).length ≤ out.length + l.length
  | [], out, _, ho, po, _ => by simp [ofS, ho, po, num_nil]
  | x :: l, out, hs, ho, po, hu => by
    obtain ⟨h1, h2⟩ := List.pairwise_cons.mp hs
    have hx := hu x (by simp)
    have := ofS_facts l (moreL out x 1) h2 (moreL_asc ho hx) (moreL_pos po (Int.le_refl _)) (fun v hv => upto_le (moreL_upto hx) (h1 v hv))
    refine ⟨this.1, this.2.1, fun v => ?_, ?_, ?_⟩
    · rw [ofS, this.2.2.1, moreL_cnt, num_cons]; omega
    · rw [ofS, this.2.2.2.1, moreL_sum]; simp; omega
    · have := this.2.2.2.2
      have := moreL_len out x 1
      rw [ofS]; simp only [List.length_cons]; omega

theorem srt_perm (l : List Int) : (srt l).Perm l := List.mergeSort_perm _ _
theorem srt_sorted (l : List Int) : (srt l).Pairwise (· ≤ ·) := by
  have := List.pairwise_mergeSort (le := fun x y : Int => decide (x ≤ y)) (fun a b c h1 h2 => by simp at *; omega) (fun a b => by simp; omega) l
  simpa [srt] using this

theorem ofL_facts (l : List Int) : asc (ofL l) ∧ pos (ofL l) ∧ (∀ v, cnt (ofL l) v = num l v) ∧ sum (ofL l) = l.length ∧ (ofL l).length ≤ l.length := by
  have := ofS_facts (srt l) [] (srt_sorted l) (by simp [asc]) (fun q hq => by simp at hq) (fun v _ q hq => by simp at hq)
  have hl := (srt_perm l).length_eq
  refine ⟨this.1, this.2.1, fun v => ?_, ?_, ?_⟩
  · rw [ofL, this.2.2.1]
    simp only [cnt, num, (srt_perm l).count_eq]; omega
  · rw [ofL, this.2.2.2.1, hl]; simp [sum]
  · have := this.2.2.2.2
    rw [hl] at this; simpa [ofL] using this

theorem good_ofL {l : List Int} (h : l.length ≤ 1000000) : good (ofL l) = true := by
  obtain ⟨h1, h2, _, h4, _⟩ := ofL_facts l
  exact good_iff.mpr ⟨h1, h2, by rw [h4]; simp [cap]; omega⟩

theorem ofL_ext {b : List Run} {l : List Int} (h1 : asc b) (h2 : pos b) (h : ∀ v, cnt b v = num l v) : b = ofL l := by
  obtain ⟨g1, g2, g3, _⟩ := ofL_facts l
  exact ext h1 g1 h2 g2 fun v => by rw [h, g3]

theorem ofL_nil : ofL [] = [] := (ofL_ext (by simp [asc]) (fun q hq => by simp at hq) (fun v => rfl)).symm

theorem minus_ofL {x : Int} {l : List Int} (h : l.length ≤ 100000) : minus (ofL (x :: l)) (ofL [x]) = (ofL l, true) := by
  have h3 := (ofL_facts (x :: l)).2.2.1
  have k3 := (ofL_facts [x]).2.2.1
  obtain ⟨o, ho, o1, o2, o3⟩ := minus_facts (a := ofL (x :: l)) (b := ofL [x]) (good_ofL (l := x :: l) (by simp; omega)) (good_ofL (l := [x]) (by simp)) (fun v => by
    rw [h3, k3, num_cons, num_cons, num_nil]
    have : 0 ≤ num l v := Int.natCast_nonneg _
    omega)
  have e : o = ofL l := ofL_ext o1 o2 fun v => by rw [o3, h3, k3, num_cons, num_cons, num_nil]; omega
  rw [ho, e]

/-! ### the ends -/
theorem mem_of_cnt : ∀ {l : List Run} {v : Int}, cnt l v ≠ 0 → ∃ r ∈ l, r.1 = v
  | [], v, h => by simp [cnt] at h
  | r :: l, v, h => by
    by_cases e : r.1 = v
    · exact ⟨r, by simp, e⟩
    · simp only [cnt, if_neg e, Int.zero_add] at h
      obtain ⟨q, hq, he⟩ := mem_of_cnt h
      exact ⟨q, by simp [hq], he⟩

theorem num_pos {l : List Int} {v : Int} : 0 < num l v ↔ v ∈ l := by
  simp only [num]
  rw [← List.count_pos_iff]
  omega

theorem ofL_mem {l : List Int} {r : Run} (h : r ∈ ofL l) : r.1 ∈ l := by
  obtain ⟨h1, h2, h3, _⟩ := ofL_facts l
  have := cnt_pos h2 h
  have := h2 r h
  exact num_pos.mp (by rw [← h3]; omega)
theorem ofL_mem' {l : List Int} {v : Int} (h : v ∈ l) : ∃ r ∈ ofL l, r.1 = v := by
  obtain ⟨h1, h2, h3, _⟩ := ofL_facts l
  exact mem_of_cnt (by rw [h3]; have := num_pos.mpr h; omega)

theorem asc_head {r : Run} {l : List Run} (h : asc (r :: l)) : ∀ q ∈ r :: l, r.1 ≤ q.1 := by
  intro q hq
  rcases List.mem_cons.mp hq with rfl | hq
  · exact Int.le_refl _
  · have := (asc_cons.mp h).1 q hq; omega
theorem asc_last {r : Run} {l : List Run} (h : asc (l ++ [r])) : ∀ q ∈ l ++ [r], q.1 ≤ r.1 := by
  intro q hq
  rcases List.mem_append.mp hq with hq | hq
  · have := (asc_snoc.mp h).2 q hq; omega
  · simp at hq; subst hq; exact Int.le_refl _
end Go.Bag

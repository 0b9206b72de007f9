/- Part of the proof of DeltaRows: lemmas. -/
import Derived.Test.YtcmejdkjfekoeaaDeltaRowsJ1
import Derived.Test.YtcmejdkjfekoeaaDeltaRowsJ2
import Derived.Test.YtcmejdkjfekoeaaDeltaRowsJ3
import Derived.Test.YtcmejdkjfekoeaaDeltaRowsJ4
import Derived.Test.YtcmejdkjfekoeaaDeltaRowsJ5
set_option linter.unusedVariables false
set_option linter.unusedSimpArgs false
/-
  DELTAS, PLAIN, the third part: how long, of what numbers. My own work.
-/
namespace Go.Bag
open Go.Pl
theorem ranged_of {o a b : List Run} (go : good o = true) (ra : ranged a) (rb : ranged b) (h : ∀ v, cnt o v ≠ 0 → cnt a v ≠ 0 ∨ cnt b v ≠ 0) : ranged o := by
  obtain ⟨g1, g2, g3⟩ := good_iff.mp go
  have h0 : cap = 1099511627776 := rfl
  intro r hr
  have h1 := le_sum g2 r hr
  have h2 := asc_cnt g1 hr
  refine ⟨?_, by omega⟩
  rcases h r.1 (by omega) with h | h
  · obtain ⟨q, hq, e⟩ := mem_of_cnt h; rw [← e]; exact (ra q hq).1
  · obtain ⟨q, hq, e⟩ := mem_of_cnt h; rw [← e]; exact (rb q hq).1
theorem mergeLen : ∀ (m : Nat) (out a b : List Run), a.length + b.length = m → (merge out a b).length ≤ out.length + m := by
  intro m
  induction m with
  | zero =>
    intro out a b hm
    obtain rfl : a = [] := List.eq_nil_of_length_eq_zero (by omega)
    obtain rfl : b = [] := List.eq_nil_of_length_eq_zero (by omega)
    simp [merge]
  | succ m ih =>
    intro out a b hm
    match a, b, hm with
    | [], s :: b, hm =>
      rw [show merge out [] (s :: b) = merge (moreL out s.1 s.2) [] b by simp only [merge]]
      have := ih (moreL out s.1 s.2) [] b (by simpa using hm)
      have := moreL_len out s.1 s.2
      omega
    | r :: a, [], hm =>
      rw [show merge out (r :: a) [] = merge (moreL out r.1 r.2) a [] by simp only [merge]]
      have := ih (moreL out r.1 r.2) a [] (by simpa using hm)
      have := moreL_len out r.1 r.2
      omega
    | r :: a, s :: b, hm =>
      rw [merge]
      split
      · have := ih (moreL out s.1 s.2) (r :: a) b (by simp at hm ⊢; omega)
        have := moreL_len out s.1 s.2
        omega
      · have := ih (moreL out r.1 r.2) a (s :: b) (by simp at hm ⊢; omega)
        have := moreL_len out r.1 r.2
        omega
theorem joinLen (a b : List Run) : (join a b).1.length ≤ a.length + b.length := by
  unfold join
  split
  · have := mergeLen _ [] a b rfl
    simpa using this
  · simp
theorem minusLLen : ∀ (a out b : List Run) (o k : List Run), minusL out a b = some (o, k) → o.length ≤ out.length + a.length
  | [], out, b, o, k, h => by simp only [minusL, Option.some.injEq, Prod.mk.injEq] at h; rw [h.1]; simp
  | r :: a, out, b, o, k, h => by
    rw [minusL_cons] at h
    split at h
    · cases h
    · have := minusLLen a _ _ o k h
      split at this <;> simp at this ⊢ <;> omega
theorem minusLen (a b : List Run) : (minus a b).1.length ≤ a.length := by
  unfold minus
  split
  · split
    · rename_i o h
      have := minusLLen a [] b _ _ h
      simpa using this
    · simp
  · simp
theorem inB_nil (k : Nat) : inB k [] := ⟨fun q hq => by simp at hq, by simp⟩
theorem inB_mono {k l : Nat} {b : List Run} (h : inB k b) (hk : k ≤ l) : inB l b := ⟨h.1, by have := h.2; omega⟩
theorem inB_join {k l : Nat} {a b : List Run} (ha : inB k a) (hb : inB l b) : inB (k + l) (join a b).1 := by
  refine ⟨?_, by have := joinLen a b; have := ha.2; have := hb.2; omega⟩
  cases h : (join a b).2 with
  | true =>
    have j := join_is h
    exact ranged_of j.2.2.2.1 ha.1 hb.1 fun v hv => by rw [j.2.2.2.2.2.2] at hv; omega
  | false =>
    have : ¬ (good a = true ∧ good b = true ∧ sum a + sum b ≤ cap) := fun hc => by
      obtain ⟨o, h1, _⟩ := join_ok hc.1 hc.2.1 hc.2.2
      rw [h1] at h; cases h
    rw [join_no this]; exact (inB_nil 0).1
theorem inB_minus {k : Nat} {a b : List Run} (ha : inB k a) : inB k (minus a b).1 := by
  refine ⟨?_, by have := minusLen a b; have := ha.2; omega⟩
  cases h : (minus a b).2 with
  | true =>
    obtain ⟨g1, g2, g3, g4⟩ := minus_of h
    exact ranged_of g3 ha.1 ha.1 fun v hv => by
      have := cnt_good g3 v; have := cnt_good g2 v; rw [g4] at *; omega
  | false =>
    by_cases hg : good a = true ∧ good b = true
    · by_cases hs : sub b a
      · obtain ⟨o, h1, _⟩ := minus_facts hg.1 hg.2 hs
        rw [h1] at h; cases h
      · rw [minus_no hs]; exact (inB_nil 0).1
    · unfold minus; rw [if_neg hg]; exact (inB_nil 0).1
theorem inB_cut {k : Nat} {a b : List Run} (ga : good a = true) (gb : good b = true) (ha : inB k a) : inB k (cut b a) := by
  obtain ⟨d1, d2⟩ := good_cut ga gb
  refine ⟨ranged_of d1 ha.1 ha.1 fun v hv => ?_, by have := cut_len b a; have := ha.2; omega⟩
  rw [d2] at hv; have := cnt_good gb v; omega
theorem inB_swap {k l : Nat} {b o i : List Run} (hb : inB k b) (hi : inB l i) : inB (k + l) (swap b o i).1 := by
  unfold swap
  split
  · exact inB_join (inB_minus hb) hi
  · exact inB_nil _
theorem inD_zero (k : Nat) : inD k zeroD := ⟨by decide, by decide, by decide, inB_nil _, inB_nil _, inB_nil _, inB_nil _⟩
theorem inD_to {k l : Nat} {d : Delta} (h : inD k d) (hk : k ≤ l) : inD l d := by
  obtain ⟨h1, h2, h3, h4, h5, h6, h7⟩ := h
  exact ⟨h1, h2, h3, inB_mono h4 hk, inB_mono h5 hk, inB_mono h6 hk, inB_mono h7 hk⟩
theorem inC_to {k l : Nat} {c : Cell} (h : inC k c) (hk : k ≤ l) : inC l c := by
  obtain ⟨h1, h2, h3, h4, h5, h6, h7⟩ := h
  exact ⟨h1, h2, h3, h4, h5, by omega, by omega⟩
theorem inC_zero (k : Nat) : inC k zeroC := ⟨by decide, by decide, by decide, (inB_nil k).1, (inB_nil k).1, by simp [zeroC], by simp [zeroC]⟩
theorem inD_mk {k : Nat} {m n : Int} {i0 i1 o0 o1 : List Run} (h : preD m n i0 i1 o0 o1) (h1 : inB k i0) (h2 : m = 2 → inB k i1) (h3 : inB k o0) (h4 : m = 2 → inB k o1) : inD k (mkD m n i0 i1 o0 o1).1 := by
  unfold mkD
  split
  · rename_i hc
    obtain ⟨hm, ⟨g1, g2, g3⟩, hh⟩ := h
    refine ⟨⟨by show -9223372036854775808 ≤ n; omega, by show n ≤ 9223372036854775807; omega⟩, hc.1, ?_, inB_cut g1 g2 h1, ?_, inB_cut g2 g1 h3, ?_⟩
    · show in64 (if m = 2 then _ else _)
      split
      · rename_i hm2; exact hc.2.1 hm2
      · decide
    · show inB k (if m = 2 then _ else _)
      split
      · rename_i hm2; exact inB_cut (hh hm2).1 (hh hm2).2.1 (h2 hm2)
      · exact inB_nil _
    · show inB k (if m = 2 then _ else _)
      split
      · rename_i hm2; exact inB_cut (hh hm2).2.1 (hh hm2).1 (h4 hm2)
      · exact inB_nil _
  · exact inD_zero k
theorem inD_join {k l : Nat} {m : Int} {a b : Delta} (ha : inD k a) (hb : inD l b) : inD (k + l) (joinD m a b).1 := by
  unfold joinD
  split
  · rename_i hc
    obtain ⟨_, _, _, a1, a2, a3, a4⟩ := ha
    obtain ⟨_, _, _, b1, b2, b3, b4⟩ := hb
    exact inD_mk (joinD_pre hc.1 hc.2.1 hc.2.2) (inB_join a1 b1) (fun _ => inB_join a2 b2) (inB_join a3 b3) (fun _ => inB_join a4 b4)
  · exact inD_zero _
theorem mayC_is {m : Int} {c : Cell} {is : Bool} (h : mayC m c is = true) : (good c.b0 = true ∧ sum c.b0 = c.n ∧ wsum c.b0 = c.s0) ∧ (m = 2 → good c.b1 = true ∧ sum c.b1 = c.n ∧ wsum c.b1 = c.s1) ∧ (0 ≤ c.n ∧ c.n ≤ 1099511627776) := by
  unfold mayC at h
  cases is with
  | true =>
    simp only [if_true] at h
    obtain ⟨_, h1, h2, h3⟩ := goodC_iff.mp h
    obtain ⟨q1, q2, q3⟩ := gM_iff.mp h2
    refine ⟨⟨q1, q3, q2⟩, fun hm2 => ?_, by omega⟩
    rw [if_pos hm2] at h3
    obtain ⟨q1, q2, q3⟩ := gM_iff.mp h3
    exact ⟨q1, q3, q2⟩
  | false =>
    simp only [Bool.false_eq_true, if_false, decide_eq_true_eq] at h
    subst h
    exact ⟨⟨by decide, rfl, rfl⟩, fun _ => ⟨by decide, rfl, rfl⟩, by decide⟩
theorem betweenD_pre {m : Int} {a b : Cell} {was is : Bool} (hm : 1 ≤ m ∧ m ≤ 2) (ha : mayC m a was = true) (hb : mayC m b is = true) : preD m (b.n - a.n) b.b0 b.b1 a.b0 a.b1 := by
  obtain ⟨a1, a2, a3⟩ := mayC_is ha
  obtain ⟨b1, b2, b3⟩ := mayC_is hb
  refine ⟨hm, ⟨b1.1, a1.1, by omega⟩, fun hm2 => ⟨(b2 hm2).1, (a2 hm2).1, ?_⟩⟩
  have := a2 hm2; have := b2 hm2; omega
theorem good_one (v : Int) : good [(v, 1)] = true := by simp [good, goodFrom, cap]
theorem ofD_pre {m : Int} (hm : 1 ≤ m ∧ m ≤ 2) (a b : Int) : preD m 1 [(a, 1)] [(b, 1)] [] [] ∧ preD m (-1) [] [] [(a, 1)] [(b, 1)] :=
  ⟨⟨hm, ⟨good_one a, by decide, by simp [sum]⟩, fun _ => ⟨good_one b, by decide, by simp [sum]⟩⟩, ⟨hm, ⟨by decide, good_one a, by simp [sum]⟩, fun _ => ⟨by decide, good_one b, by simp [sum]⟩⟩⟩
theorem inB_one {v : Int} (h : in64 v) : inB 1 [(v, 1)] := ⟨fun q hq => by obtain rfl := List.mem_singleton.mp hq; exact ⟨h, by show -9223372036854775808 ≤ (1 : Int) ∧ (1 : Int) ≤ 9223372036854775807; omega⟩, by simp⟩
theorem inD_of {m : Int} {del : Bool} {r : RowS} (h0 : in64 r.m0) (h1 : in64 r.m1) : inD 1 (ofD m del r).1 := by
  unfold ofD
  split
  · rename_i hm
    cases del with
    | true => exact inD_mk (ofD_pre hm r.m0 r.m1).2 (inB_nil _) (fun _ => inB_nil _) (inB_one h0) (fun _ => inB_one h1)
    | false => exact inD_mk (ofD_pre hm r.m0 r.m1).1 (inB_one h0) (fun _ => inB_one h1) (inB_nil _) (fun _ => inB_nil _)
  · exact inD_zero _
def dV (p : Delta × Bool) : CV := .tup [encDelta p.1, .bool p.2]
def aV (p : Cell × Bool × Bool) : CV := .tup [encCell p.1, .bool p.2.1, .bool p.2.2]
def encCh (del : Bool) (r : RowS) : CV := .agg (.bool del :: encRow r)
/-! ### what the program comes to, told the document's way -/
def keD (m n s0 s1 : Int) (i0 i1 o0 o1 : List Run) : Delta := ⟨n, s0, if m = 2 then s1 else 0, cut o0 i0, if m = 2 then cut o1 i1 else [], cut i0 o0, if m = 2 then cut i1 o1 else []⟩
theorem mkD_eq {m n s0 s1 : Int} {i0 i1 o0 o1 : List Run} (h : preD m n i0 i1 o0 o1) (h0 : wsum i0 - wsum o0 = s0) (h1 : m = 2 → wsum i1 - wsum o1 = s1) :
    mkD m n i0 i1 o0 o1 = if in64 s0 ∧ (m = 2 → in64 s1) ∧ goodD m (keD m n s0 s1 i0 i1 o0 o1) = true then (keD m n s0 s1 i0 i1 o0 o1, true) else (zeroD, false) := by
  subst h0
  have ek : keD m n (wsum i0 - wsum o0) s1 i0 i1 o0 o1 = ⟨n, wsum i0 - wsum o0, if m = 2 then wsum i1 - wsum o1 else 0, cut o0 i0, if m = 2 then cut o1 i1 else [], cut i0 o0, if m = 2 then cut i1 o1 else []⟩ := by
    unfold keD
    by_cases hm2 : m = 2
    · simp only [hm2, if_true, h1 hm2]
    · simp only [hm2, if_false]
  have e1 : (m = 2 → in64 s1) ↔ (m = 2 → in64 (wsum i1 - wsum o1)) := ⟨fun k hm2 => by rw [h1 hm2]; exact k hm2, fun k hm2 => by rw [← h1 hm2]; exact k hm2⟩
  rw [ek]
  by_cases hc : in64 (wsum i0 - wsum o0) ∧ (m = 2 → in64 (wsum i1 - wsum o1)) ∧ (-1099511627776 ≤ n ∧ n ≤ 1099511627776)
  · have em : mkD m n i0 i1 o0 o1 = (⟨n, wsum i0 - wsum o0, if m = 2 then wsum i1 - wsum o1 else 0, cut o0 i0, if m = 2 then cut o1 i1 else [], cut i0 o0, if m = 2 then cut i1 o1 else []⟩, true) := by unfold mkD; rw [if_pos hc]
    have hg := mkD_good h (by rw [em])
    rw [em] at hg ⊢
    exact (if_pos ⟨hc.1, e1.mpr hc.2.1, hg⟩).symm
  · have em : mkD m n i0 i1 o0 o1 = (zeroD, false) := by unfold mkD; rw [if_neg hc]
    rw [em]
    exact (if_neg fun k => hc ⟨k.1, e1.mp k.2.1, (goodD_iff.mp k.2.2).2.1⟩).symm
theorem joinD_eq {m : Int} {a b : Delta} (ha : goodD m a = true) (hb : goodD m b = true) (hj : joks m a b) :
    joinD m a b = if in64 (a.s0 + b.s0) ∧ (m = 2 → in64 (a.s1 + b.s1)) ∧ goodD m (keD m (a.n + b.n) (a.s0 + b.s0) (a.s1 + b.s1) (join a.i0 b.i0).1 (join a.i1 b.i1).1 (join a.o0 b.o0).1 (join a.o1 b.o1).1) = true then (keD m (a.n + b.n) (a.s0 + b.s0) (a.s1 + b.s1) (join a.i0 b.i0).1 (join a.i1 b.i1).1 (join a.o0 b.o0).1 (join a.o1 b.o1).1, true) else (zeroD, false) := by
  obtain ⟨hm, _, d1, d2⟩ := goodD_iff.mp ha
  obtain ⟨_, _, e1, e2⟩ := goodD_iff.mp hb
  obtain ⟨a1, a2, a3, a4, a5⟩ := mD_iff.mp d1
  obtain ⟨b1, b2, b3, b4, b5⟩ := mD_iff.mp e1
  have k1 := join_is hj.1
  have k2 := join_is hj.2.1
  have ej : joinD m a b = mkD m (a.n + b.n) (join a.i0 b.i0).1 (join a.i1 b.i1).1 (join a.o0 b.o0).1 (join a.o1 b.o1).1 := by unfold joinD; rw [if_pos ⟨ha, hb, hj⟩]
  rw [ej]
  refine mkD_eq (joinD_pre ha hb hj) (by rw [k1.2.2.2.2.2.1, k2.2.2.2.2.2.1]; omega) fun hm2 => ?_
  rw [if_pos hm2] at d2 e2
  obtain ⟨p1, p2, p3, p4, p5⟩ := mD_iff.mp d2
  obtain ⟨q1, q2, q3, q4, q5⟩ := mD_iff.mp e2
  rw [(join_is (hj.2.2 hm2).1).2.2.2.2.2.1, (join_is (hj.2.2 hm2).2).2.2.2.2.2.1]; omega
theorem betweenD_eq {m : Int} {a b : Cell} {was is : Bool} (hm : 1 ≤ m ∧ m ≤ 2) (ha : mayC m a was = true) (hb : mayC m b is = true) :
    betweenD m a was b is = if in64 (b.s0 - a.s0) ∧ (m = 2 → in64 (b.s1 - a.s1)) ∧ goodD m (keD m (b.n - a.n) (b.s0 - a.s0) (b.s1 - a.s1) b.b0 b.b1 a.b0 a.b1) = true then (keD m (b.n - a.n) (b.s0 - a.s0) (b.s1 - a.s1) b.b0 b.b1 a.b0 a.b1, true) else (zeroD, false) := by
  have eb : betweenD m a was b is = mkD m (b.n - a.n) b.b0 b.b1 a.b0 a.b1 := by unfold betweenD; rw [if_pos ⟨hm, ha, hb⟩]
  obtain ⟨a1, a2, a3⟩ := mayC_is ha
  obtain ⟨b1, b2, b3⟩ := mayC_is hb
  rw [eb]
  exact mkD_eq (betweenD_pre hm ha hb) (by rw [a1.2.2, b1.2.2]) fun hm2 => by rw [(a2 hm2).2.2, (b2 hm2).2.2]
theorem ofL_one (a : Int) : ofL [a] = [(a, 1)] := by
  refine (ofL_ext (by simp [asc]) (fun q hq => by obtain rfl := List.mem_singleton.mp hq; show 1 ≤ (1 : Int); omega) fun v => ?_).symm
  simp [cnt, num_cons, num_nil]
theorem ofC_one {m : Int} (hm : 1 ≤ m ∧ m ≤ 2) (r : RowS) (h0 : in64 r.m0) (h1 : in64 r.m1) : ofC m [r] = (⟨1, r.m0, if m = 2 then r.m1 else 0, [(r.m0, 1)], if m = 2 then [(r.m1, 1)] else []⟩, true) := by
  unfold ofC
  rw [if_pos ⟨hm, by simp, by simpa [sumI] using h0, fun _ => by simpa [sumI] using h1⟩]
  simp [sumI, ofL_one]
theorem good_cone {m : Int} (hm : 1 ≤ m ∧ m ≤ 2) (a b : Int) : goodC m ⟨1, a, if m = 2 then b else 0, [(a, 1)], if m = 2 then [(b, 1)] else []⟩ = true := by
  refine goodC_iff.mpr ⟨hm, by show (1 : Int) ≤ 1 ∧ (1 : Int) ≤ 1099511627776; omega, gM_iff.mpr ⟨good_one a, by simp [wsum], by simp [sum]⟩, ?_⟩
  by_cases hm2 : m = 2
  · simp only [hm2, if_true]; exact gM_iff.mpr ⟨good_one b, by simp [wsum], by simp [sum]⟩
  · simp only [hm2, if_false]; exact ⟨trivial, trivial⟩
theorem ofD_between {m : Int} (hm : 1 ≤ m ∧ m ≤ 2) (del : Bool) (r : RowS) (h0 : in64 r.m0) (h1 : in64 r.m1) : ofD m del r = if del then betweenD m (ofC m [r]).1 true zeroC false else betweenD m zeroC false (ofC m [r]).1 true := by
  rw [ofC_one hm r h0 h1]
  have g := good_cone hm r.m0 r.m1
  have z : mayC m zeroC false = true := by simp [mayC]
  have key : ∀ (n : Int) (i0 o0 : List Run) (x y : Int) (p q : List Run), (m = 2 → p = q) → True := fun _ _ _ _ _ _ _ _ => trivial
  unfold ofD betweenD
  rw [if_pos hm]
  cases del with
  | true =>
    simp only [if_true]
    rw [if_pos ⟨hm, g, z⟩]
    by_cases hm2 : m = 2
    · simp only [hm2, if_true]; rfl
    · simp only [hm2, if_false]
      show mkD m (-1) [] [] [(r.m0, 1)] [(r.m1, 1)] = mkD m (0 - 1) [] [] [(r.m0, 1)] []
      unfold mkD; simp only [hm2, if_false, false_implies]; rfl
  | false =>
    simp only [Bool.false_eq_true, if_false]
    rw [if_pos ⟨hm, z, g⟩]
    by_cases hm2 : m = 2
    · simp only [hm2, if_true]; rfl
    · simp only [hm2, if_false]
      show mkD m 1 [(r.m0, 1)] [(r.m1, 1)] [] [] = mkD m (1 - 0) [(r.m0, 1)] [] [] []
      unfold mkD; simp only [hm2, if_false, false_implies]; rfl
end Go.Bag
/-
  THE DELTAS OF CHANGES, PLAIN: joined, they part the cell of the rows that were from that of the rows that are. My own work.
-/
namespace Go.Bag
open Go.Pl
/-! ### Masses -/
def abS : List Int → Int
  | [] => 0
  | a :: l => ab a + abS l
theorem abS_nn : ∀ l : List Int, 0 ≤ abS l
  | [] => by simp [abS]
  | a :: l => by have := ab_nn a; have := abS_nn l; simp only [abS]; omega
theorem abS_perm {a b : List Int} (h : a.Perm b) : abS a = abS b := by
  induction h with
  | nil => rfl
  | cons x _ ih => simp only [abS, ih]
  | swap x y l => simp only [abS]; omega
  | trans _ _ ih1 ih2 => omega
theorem sumI_ab : ∀ l : List Int, -abS l ≤ sumI l ∧ sumI l ≤ abS l
  | [] => by simp [abS, sumI]
  | a :: l => by
    have := sumI_ab l
    simp only [abS, sumI]
    unfold ab
    split <;> omega
def fine (l : List RowS) : Prop := abS (l.map (·.m0)) ≤ most ∧ abS (l.map (·.m1)) ≤ most
theorem massS_iff : ∀ (l : List RowS) (a b : Int), (massS a b l).isSome = true ↔ a + abS (l.map (·.m0)) ≤ most ∧ b + abS (l.map (·.m1)) ≤ most ∨ (l = [])
  | [], a, b => by simp [massS]
  | r :: l, a, b => by
    have h0 := abS_nn (l.map (·.m0))
    have h1 := abS_nn (l.map (·.m1))
    simp only [massS, List.map_cons, abS, reduceCtorEq, or_false]
    split
    · rename_i h
      rw [massS_iff l]
      constructor
      · rintro (h' | h')
        · omega
        · subst h'; simp only [List.map_nil, abS]; omega
      · intro h'; left; omega
    · rename_i h
      constructor
      · intro h'; cases h'
      · intro h'; exact absurd (show ab r.m0 ≤ most - a ∧ ab r.m1 ≤ most - b by omega) h
theorem fine_of {l : List RowS} (h : (massS 0 0 l).isSome = true) : fine l := by
  rcases (massS_iff l 0 0).mp h with h | h
  · exact ⟨by omega, by omega⟩
  · subst h; simp [fine, abS, most]
theorem fine_perm {a b : List RowS} (h : a.Perm b) (hf : fine a) : fine b := by
  have h0 := abS_perm (h.map (·.m0))
  have h1 := abS_perm (h.map (·.m1))
  obtain ⟨f0, f1⟩ := hf
  exact ⟨by rw [← h0]; exact f0, by rw [← h1]; exact f1⟩
theorem fine_tail {r : RowS} {l : List RowS} (h : fine (r :: l)) : fine l := by
  obtain ⟨f0, f1⟩ := h
  simp only [List.map_cons, abS] at f0 f1
  have := ab_nn r.m0; have := ab_nn r.m1
  exact ⟨by omega, by omega⟩
theorem fine_row {r : RowS} {l : List RowS} (h : fine (r :: l)) : (-most ≤ r.m0 ∧ r.m0 ≤ most) ∧ (-most ≤ r.m1 ∧ r.m1 ≤ most) := by
  obtain ⟨f0, f1⟩ := h
  simp only [List.map_cons, abS] at f0 f1
  have := abS_nn (l.map (·.m0)); have := abS_nn (l.map (·.m1))
  have k : ∀ x : Int, ab x ≤ most → -most ≤ x ∧ x ≤ most := fun x hx => by unfold ab at hx; split at hx <;> omega
  exact ⟨k _ (by omega), k _ (by omega)⟩
theorem fine_sum {l : List RowS} (h : fine l) : (-most ≤ sumI (l.map (·.m0)) ∧ sumI (l.map (·.m0)) ≤ most) ∧ (-most ≤ sumI (l.map (·.m1)) ∧ sumI (l.map (·.m1)) ≤ most) := by
  have h0 := sumI_ab (l.map (·.m0)); have h1 := sumI_ab (l.map (·.m1))
  obtain ⟨f0, f1⟩ := h
  exact ⟨by omega, by omega⟩
/-! ### The cell of rows, or none -/
theorem cell_is {m : Int} (hm : 1 ≤ m ∧ m ≤ 2) {L : List RowS} (hl : L.length ≤ 1000) (hf : fine L) :
    mayC m (ofC m L).1 (ofC m L).2 = true ∧ (ofC m L).1.n = L.length ∧ (∀ v, cnt (ofC m L).1.b0 v = num (L.map (·.m0)) v) ∧ (m = 2 → ∀ v, cnt (ofC m L).1.b1 v = num (L.map (·.m1)) v) ∧ (ofC m L).2 = decide ((L.length : Int) ≠ 0) := by
  obtain ⟨s0, s1⟩ := fine_sum hf
  unfold most at s0 s1
  by_cases hL : L = []
  · subst hL
    have e : ofC m [] = (zeroC, false) := by simp [ofC]
    rw [e]
    exact ⟨by simp [mayC], rfl, fun v => rfl, fun _ v => rfl, by simp⟩
  · have e : ofC m L = (⟨L.length, sumI (L.map (·.m0)), if m = 2 then sumI (L.map (·.m1)) else 0, ofL (L.map (·.m0)), if m = 2 then ofL (L.map (·.m1)) else []⟩, true) := by
      unfold ofC
      rw [if_pos ⟨hm, hL, ⟨by omega, by omega⟩, fun _ => ⟨by omega, by omega⟩⟩]
    have hpos : 1 ≤ L.length := by
      cases L with
      | nil => exact absurd rfl hL
      | cons x l => simp
    have g : ∀ f : RowS → Int, gM (ofL (L.map f)) (sumI (L.map f)) L.length = true := fun f => by
      have hf := ofL_facts (L.map f)
      exact gM_iff.mpr ⟨good_ofL (by simp; omega), wsum_ofL _, by rw [hf.2.2.2.1]; simp⟩
    rw [e]
    refine ⟨?_, rfl, fun v => (ofL_facts _).2.2.1 v, fun h2 v => ?_, ?_⟩
    · simp only [mayC, if_true]
      refine goodC_iff.mpr ⟨hm, ⟨by show 1 ≤ (L.length : Int); omega, by show (L.length : Int) ≤ 1099511627776; omega⟩, g _, ?_⟩
      by_cases h2 : m = 2
      · simp only [h2, if_true]; exact g _
      · simp only [h2, if_false]; exact ⟨trivial, trivial⟩
    · simp only [h2, if_true]; exact (ofL_facts _).2.2.1 v
    · simp; omega
structure Parts (m : Int) (A L : List RowS) (d : Delta) : Prop where
  g : goodD m d = true
  n : d.n = L.length - A.length
  c0 : ∀ v, cnt d.i0 v - cnt d.o0 v = num (L.map (·.m0)) v - num (A.map (·.m0)) v
  c1 : m = 2 → ∀ v, cnt d.i1 v - cnt d.o1 v = num (L.map (·.m1)) v - num (A.map (·.m1)) v
theorem parts_nil {m : Int} (hm : 1 ≤ m ∧ m ≤ 2) (A : List RowS) : Parts m A A zeroD :=
  ⟨goodD_zero hm, by simp [zeroD], fun v => by simp [zeroD, cnt], fun _ v => by simp [zeroD, cnt]⟩
section
variable {m : Int} {A L : List RowS} {d : Delta}
theorem apart_cases {a b : List Run} (ga : good a = true) (gb : good b = true) (h : apartL a b = true) (v : Int) : (cnt a v = 0 ∧ 0 ≤ cnt b v) ∨ (cnt b v = 0 ∧ 0 ≤ cnt a v) := by
  have := cnt_good ga v; have := cnt_good gb v
  rcases (apartL_iff ga gb).mp h v with h | h
  · exact .inl ⟨h, by omega⟩
  · exact .inr ⟨h, by omega⟩
theorem swap_parts {i o x y : List Run} (gi : good i = true) (go : good o = true) (gx : good x = true) (gy : good y = true) (hap : apartL i o = true) (h : ∀ v, cnt i v - cnt o v = cnt y v - cnt x v) :
    swap x o i = (y, true) ∧ sum i ≤ sum y ∧ sum o ≤ sum x ∧ wsum x + wsum i = wsum y + wsum o := by
  have hs : sub o x := fun v => by
    have := h v; have := cnt_good gy v; have := cnt_good gx v
    rcases apart_cases gi go hap v with k | k <;> omega
  have hs2 : sub i y := fun v => by
    have := h v; have := cnt_good gy v; have := cnt_good gx v
    rcases apart_cases gi go hap v with k | k <;> omega
  obtain ⟨p, hp, p1, p2, p3⟩ := minus_facts gx go hs
  obtain ⟨q, hq, q1, q2, q3⟩ := minus_facts gy gi hs2
  have hpn := sum_nonneg p2
  have hqn := sum_nonneg q2
  have t1 := tot_of (a := p) (b := o) (c := x) (d := []) fun v => by rw [p3]; simp [cnt]
  have t2 := tot_of (a := q) (b := i) (c := y) (d := []) fun v => by rw [q3]; simp [cnt]
  have t3 := tot_of (a := p) (b := i) (c := y) (d := []) fun v => by rw [p3]; have := h v; simp only [cnt]; omega
  have t4 := tot_of (a := x) (b := i) (c := y) (d := o) fun v => by have := h v; omega
  simp only [sum, wsum] at t1 t2 t3
  have gp : good p = true := good_iff.mpr ⟨p1, p2, by have := (good_iff.mp gx).2.2; have := sum_nonneg (good_iff.mp go).2.1; omega⟩
  obtain ⟨z, hz, z1, z2, z3⟩ := join_ok gp gi (by have := (good_iff.mp gy).2.2; omega)
  have : z = y := ext_good z1 gy fun v => by rw [z3, p3]; have := h v; omega
  subst this
  refine ⟨?_, by omega, by omega, t4.2⟩
  unfold swap
  rw [hp]
  exact hz
theorem bags (hm : 1 ≤ m ∧ m ≤ 2) (hA : A.length ≤ 1000) (hL : L.length ≤ 1000) (fA : fine A) (fL : fine L) (h : Parts m A L d) :
    (swap (ofC m A).1.b0 d.o0 d.i0 = ((ofC m L).1.b0, true) ∧ sum d.i0 ≤ L.length ∧ sum d.o0 ≤ A.length ∧ (ofC m A).1.s0 + d.s0 = (ofC m L).1.s0) ∧
    (m = 2 → swap (ofC m A).1.b1 d.o1 d.i1 = ((ofC m L).1.b1, true) ∧ sum d.i1 ≤ L.length ∧ sum d.o1 ≤ A.length ∧ (ofC m A).1.s1 + d.s1 = (ofC m L).1.s1) := by
  obtain ⟨a1, a2, a3, a4, a5⟩ := cell_is hm hA fA
  obtain ⟨l1, l2, l3, l4, l5⟩ := cell_is hm hL fL
  obtain ⟨p0, p1, _⟩ := mayC_is a1
  obtain ⟨q0, q1, _⟩ := mayC_is l1
  obtain ⟨_, _, d1, d2⟩ := goodD_iff.mp h.g
  obtain ⟨x1, x2, x3, x4, x5⟩ := mD_iff.mp d1
  refine ⟨?_, fun h2 => ?_⟩
  · obtain ⟨s1, s2, s3, s4⟩ := swap_parts x1 x2 p0.1 q0.1 x3 fun v => by rw [h.c0, l3, a3]
    exact ⟨s1, by omega, by omega, by omega⟩
  · rw [if_pos h2] at d2
    obtain ⟨y1, y2, y3, y4, y5⟩ := mD_iff.mp d2
    have p1 := p1 h2
    have q1 := q1 h2
    obtain ⟨s1, s2, s3, s4⟩ := swap_parts y1 y2 p1.1 q1.1 y3 fun v => by rw [h.c1 h2, l4 h2, a4 h2]
    exact ⟨s1, by omega, by omega, by omega⟩
theorem parts_apply (hm : 1 ≤ m ∧ m ≤ 2) (hA : A.length ≤ 1000) (hL : L.length ≤ 1000) (fA : fine A) (fL : fine L) (h : Parts m A L d) :
    applyD m (ofC m A).1 (ofC m A).2 d = ((ofC m L).1, (ofC m L).2, true) := by
  obtain ⟨⟨b1, _, _, b4⟩, hb⟩ := bags hm hA hL fA fL h
  obtain ⟨a1, a2, a3, a4, a5⟩ := cell_is hm hA fA
  obtain ⟨l1, l2, l3, l4, l5⟩ := cell_is hm hL fL
  obtain ⟨s0, s1⟩ := fine_sum fL
  unfold most at s0 s1
  have en : (ofC m A).1.n + d.n = L.length := by rw [a2, h.n]; omega
  have eN : applyN m (ofC m A).1 d = (ofC m L).1 := by
    unfold applyN
    rw [en, b4, b1]
    by_cases h2 : m = 2
    · obtain ⟨c1, _, _, c4⟩ := hb h2
      simp only [h2, if_true] at c1 c4 ⊢
      rw [c1, c4, ← h2, ← l2]
    · have := mayC_1 l1 h2
      simp only [h2, if_false]
      rw [← l2, ← this.1, ← this.2]
  have e2 : decide ((ofC m A).1.n + d.n ≠ 0) = (ofC m L).2 := by rw [en, l5]
  have f0 : in64 (ofC m L).1.s0 ∧ (m = 2 → in64 (ofC m L).1.s1) := by
    by_cases hn : L = []
    · subst hn
      have e : ofC m [] = (zeroC, false) := by simp [ofC]
      rw [e]; exact ⟨by decide, fun _ => by decide⟩
    · unfold ofC
      rw [if_pos ⟨hm, hn, ⟨by omega, by omega⟩, fun _ => ⟨by omega, by omega⟩⟩]
      refine ⟨⟨by show -9223372036854775808 ≤ sumI _; omega, by show sumI _ ≤ 9223372036854775807; omega⟩, fun h2 => ?_⟩
      simp only [h2, if_true]
      exact ⟨by omega, by omega⟩
  unfold applyD
  rw [if_pos ⟨h.g, a1, ⟨by rw [b1], fun h2 => by rw [(hb h2).1]⟩, ⟨by rw [b4]; exact f0.1, fun h2 => by rw [(hb h2).2.2.2]; exact f0.2 h2⟩, by rw [eN, e2]; exact l1⟩, eN, e2]
theorem parts_between (hm : 1 ≤ m ∧ m ≤ 2) (hA : A.length ≤ 1000) (hL : L.length ≤ 1000) (fA : fine A) (fL : fine L) (h : Parts m A L d) :
    betweenD m (ofC m A).1 (ofC m A).2 (ofC m L).1 (ofC m L).2 = (d, true) := by
  obtain ⟨a1, a2, a3, a4, a5⟩ := cell_is hm hA fA
  obtain ⟨l1, l2, l3, l4, l5⟩ := cell_is hm hL fL
  obtain ⟨p0, p1, _⟩ := mayC_is a1
  obtain ⟨q0, q1, _⟩ := mayC_is l1
  have hpre := betweenD_pre hm a1 l1
  have sum0 : ∀ {X : List RowS}, X.length ≤ 1000 → fine X → (-most ≤ (ofC m X).1.s0 ∧ (ofC m X).1.s0 ≤ most) ∧ (m = 2 → -most ≤ (ofC m X).1.s1 ∧ (ofC m X).1.s1 ≤ most) := by
    intro X hX fX
    obtain ⟨s0, s1⟩ := fine_sum fX
    by_cases hn : X = []
    · subst hn
      have e : ofC m [] = (zeroC, false) := by simp [ofC]
      rw [e]; exact ⟨by decide, fun _ => by decide⟩
    · unfold most at s0 s1
      unfold ofC
      rw [if_pos ⟨hm, hn, ⟨by omega, by omega⟩, fun _ => ⟨by omega, by omega⟩⟩]
      unfold most
      refine ⟨s0, fun h2 => ?_⟩
      simp only [h2, if_true]
      exact s1
  have u := sum0 hA fA
  have w := sum0 hL fL
  unfold most at u w
  have hk : (mkD m ((ofC m L).1.n - (ofC m A).1.n) (ofC m L).1.b0 (ofC m L).1.b1 (ofC m A).1.b0 (ofC m A).1.b1).2 = true := by
    unfold mkD
    rw [if_pos]
    refine ⟨⟨by rw [q0.2.2, p0.2.2]; omega, by rw [q0.2.2, p0.2.2]; omega⟩, fun h2 => ?_, by rw [l2, a2]; omega⟩
    have u2 := u.2 h2; have w2 := w.2 h2
    have := (q1 h2).2.2; have := (p1 h2).2.2
    exact ⟨by omega, by omega⟩
  have hg := mkD_good hpre hk
  obtain ⟨z1, z2, z3⟩ := mkD_sg hpre hk
  unfold betweenD
  rw [if_pos ⟨hm, a1, l1⟩]
  have e := extD (e := d) hg h.g (by rw [z1, h.n, l2, a2]) (fun v => by rw [z2, h.c0, l3, a3]) fun h2 v => by rw [z3 h2, h.c1 h2, l4 h2, a4 h2]
  generalize mkD m ((ofC m L).1.n - (ofC m A).1.n) (ofC m L).1.b0 (ofC m L).1.b1 (ofC m A).1.b0 (ofC m A).1.b1 = z at *
  obtain ⟨z, zb⟩ := z
  simp only at hk e
  rw [hk, e]
theorem parts_step (hm : 1 ≤ m ∧ m ≤ 2) (hA : A.length ≤ 500) (hL : L.length ≤ 500) (fA : fine A) (fL : fine L) (h : Parts m A L d) {del : Bool} {r : RowS} {L' : List RowS} (fL' : fine L')
    (hp : if del then L.Perm (r :: L') else L'.Perm (r :: L)) :
    (ofD m del r).2 = true ∧ (joinD m d (ofD m del r).1).2 = true ∧ Parts m A L' (joinD m d (ofD m del r).1).1 := by
  have fr : (-most ≤ r.m0 ∧ r.m0 ≤ most) ∧ (-most ≤ r.m1 ∧ r.m1 ≤ most) := by
    cases del with
    | true => simp only [if_true] at hp; exact fine_row (fine_perm hp fL)
    | false => simp only [Bool.false_eq_true, if_false] at hp; exact fine_row (fine_perm hp fL')
  unfold most at fr
  obtain ⟨⟨B1, B2, B3, B4⟩, BB⟩ := bags hm (by omega) (by omega) fA fL h
  obtain ⟨hx1, hx2⟩ := ofD_pre hm r.m0 r.m1
  -- the change's delta
  have hx : (ofD m del r).2 = true ∧ goodD m (ofD m del r).1 = true ∧ (ofD m del r).1.n = (if del then -1 else 1) ∧
      (∀ v, cnt (ofD m del r).1.i0 v - cnt (ofD m del r).1.o0 v = if del then - num [r.m0] v else num [r.m0] v) ∧ (m = 2 → ∀ v, cnt (ofD m del r).1.i1 v - cnt (ofD m del r).1.o1 v = if del then - num [r.m1] v else num [r.m1] v) := by
    have one : ∀ a v : Int, cnt [(a, (1 : Int))] v = num [a] v := fun a v => by simp [cnt, num_cons, num_nil]
    unfold ofD
    rw [if_pos hm]
    cases del with
    | true =>
      simp only [if_true]
      have hk : (mkD m (-1) [] [] [(r.m0, 1)] [(r.m1, 1)]).2 = true := by
        unfold mkD
        rw [if_pos]
        refine ⟨⟨by simp [wsum]; omega, by simp [wsum]; omega⟩, fun _ => ⟨by simp [wsum]; omega, by simp [wsum]; omega⟩, by omega⟩
      obtain ⟨z1, z2, z3⟩ := mkD_sg hx2 hk
      exact ⟨hk, mkD_good hx2 hk, z1, fun v => by rw [z2, one]; simp [cnt], fun h2 v => by rw [z3 h2, one]; simp [cnt]⟩
    | false =>
      simp only [Bool.false_eq_true, if_false]
      have hk : (mkD m 1 [(r.m0, 1)] [(r.m1, 1)] [] []).2 = true := by
        unfold mkD
        rw [if_pos]
        refine ⟨⟨by simp [wsum]; omega, by simp [wsum]; omega⟩, fun _ => ⟨by simp [wsum]; omega, by simp [wsum]; omega⟩, by omega⟩
      obtain ⟨z1, z2, z3⟩ := mkD_sg hx1 hk
      exact ⟨hk, mkD_good hx1 hk, z1, fun v => by rw [z2, one]; simp [cnt], fun h2 v => by rw [z3 h2, one]; simp [cnt]⟩
  obtain ⟨x1, x2, x3, x4, x5⟩ := hx
  refine ⟨x1, ?_⟩
  generalize (ofD m del r).1 = x at *
  obtain ⟨hgm, hgn, d1, d2⟩ := goodD_iff.mp h.g
  obtain ⟨_, xgn, e1, e2⟩ := goodD_iff.mp x2
  obtain ⟨p1, p2, p3, p4, p5⟩ := mD_iff.mp d1
  obtain ⟨q1, q2, q3, q4, q5⟩ := mD_iff.mp e1
  -- a change's bags are small
  have small : ∀ {i o : List Run} {a : Int}, good i = true → good o = true → apartL i o = true → (∀ v, cnt i v - cnt o v = if del then - num [a] v else num [a] v) → sum i ≤ 1 ∧ sum o ≤ 1 ∧ wsum i - wsum o = (if del then -a else a) := by
    intro i o a gi go hap hc
    have g1 : good [(a, (1 : Int))] = true := good_one a
    have g0 : good [] = true := by decide
    have one : ∀ v : Int, cnt [(a, (1 : Int))] v = num [a] v := fun v => by simp [cnt, num_cons, num_nil]
    cases del with
    | true =>
      have := swap_parts gi go g1 g0 hap fun v => by rw [hc, one]; simp [cnt]
      simp only [sum, wsum] at this
      simp only [if_true]; omega
    | false =>
      have := swap_parts gi go g0 g1 hap fun v => by rw [hc, one]; simp [cnt]
      simp only [sum, wsum] at this
      simp only [Bool.false_eq_true, if_false]; omega
  have sm0 := small q1 q2 q3 x4
  have jok : joks m d x := by
    refine ⟨?_, ?_, fun h2 => ?_⟩
    · obtain ⟨o, ho, _⟩ := join_ok p1 q1 (by simp only [cap]; omega); rw [ho]
    · obtain ⟨o, ho, _⟩ := join_ok p2 q2 (by simp only [cap]; omega); rw [ho]
    · rw [if_pos h2] at d2 e2
      obtain ⟨y1, y2, y3, y4, y5⟩ := mD_iff.mp d2
      obtain ⟨z1, z2, z3, z4, z5⟩ := mD_iff.mp e2
      have sm1 := small z1 z2 z3 (x5 h2)
      obtain ⟨_, b2, b3, b4⟩ := BB h2
      obtain ⟨o, ho, _⟩ := join_ok y1 z1 (by simp only [cap]; omega)
      obtain ⟨o', ho', _⟩ := join_ok y2 z2 (by simp only [cap]; omega)
      exact ⟨by rw [ho], by rw [ho']⟩
  -- the sums fit
  obtain ⟨A0, A1⟩ := fine_sum fA
  obtain ⟨L0, L1⟩ := fine_sum fL'
  unfold most at A0 A1 L0 L1
  have hnum : ∀ f : RowS → Int, ∀ v, num (L'.map f) v = num (L.map f) v + if del then - num [f r] v else num [f r] v := by
    intro f v
    have e : ∀ (X Y : List RowS), X.Perm (r :: Y) → num (X.map f) v = num (Y.map f) v + num [f r] v := fun X Y hXY => by
      rw [num_perm (hXY.map f)]
      simp only [List.map_cons, num_cons, num_nil]; omega
    cases del with
    | true => simp only [if_true] at hp ⊢; have := e _ _ hp; omega
    | false => simp only [Bool.false_eq_true, if_false] at hp ⊢; exact e _ _ hp
  have hsum : ∀ f : RowS → Int, sumI (L'.map f) = sumI (L.map f) + if del then - f r else f r := by
    intro f
    have e : ∀ (X Y : List RowS), X.Perm (r :: Y) → sumI (X.map f) = sumI (Y.map f) + f r := fun X Y hXY => by
      have h1 := wsum_ofL (X.map f)
      have h2 := wsum_ofL ((r :: Y).map f)
      rw [ofL_perm (hXY.map f)] at h1
      rw [h1] at h2
      rw [h2]
      simp only [List.map_cons, sumI]; omega
    cases del with
    | true => simp only [if_true] at hp ⊢; have := e _ _ hp; omega
    | false => simp only [Bool.false_eq_true, if_false] at hp ⊢; exact e _ _ hp
  have hlen : (L'.length : Int) = L.length + if del then -1 else 1 := by
    cases del with
    | true => simp only [if_true] at hp ⊢; have := hp.length_eq; simp only [List.length_cons] at this; omega
    | false => simp only [Bool.false_eq_true, if_false] at hp ⊢; have := hp.length_eq; simp only [List.length_cons] at this; omega
  -- what parts them comes to the difference of the sums
  have dif : ∀ {i o : List Run} (f : RowS → Int), good i = true → good o = true → (∀ v, cnt i v - cnt o v = num (L.map f) v - num (A.map f) v) → wsum i - wsum o = sumI (L.map f) - sumI (A.map f) := by
    intro i o f gi go hc
    have t := tot_of (a := i) (b := ofL (A.map f)) (c := o) (d := ofL (L.map f)) fun v => by
      rw [(ofL_facts _).2.2.1, (ofL_facts _).2.2.1]; have := hc v; omega
    rw [wsum_ofL, wsum_ofL] at t
    omega
  have hpre := joinD_pre h.g x2 jok
  have k1 := join_is jok.1
  have k2 := join_is jok.2.1
  have hk : (joinD m d x).2 = true := by
    unfold joinD
    rw [if_pos ⟨h.g, x2, jok⟩]
    unfold mkD
    rw [if_pos]
    refine ⟨?_, fun h2 => ?_, ?_⟩
    · have e1 := dif (·.m0) p1 p2 h.c0
      have e2 := hsum (·.m0)
      rw [k1.2.2.2.2.2.1, k2.2.2.2.2.2.1]
      exact ⟨by omega, by omega⟩
    · have k3 := join_is (jok.2.2 h2).1
      have k4 := join_is (jok.2.2 h2).2
      rw [if_pos h2] at d2 e2
      obtain ⟨y1, y2, y3, y4, y5⟩ := mD_iff.mp d2
      obtain ⟨z1, z2, z3, z4, z5⟩ := mD_iff.mp e2
      have sm1 := small z1 z2 z3 (x5 h2)
      have e1 := dif (·.m1) y1 y2 (h.c1 h2)
      have e2 := hsum (·.m1)
      rw [k3.2.2.2.2.2.1, k4.2.2.2.2.2.1]
      exact ⟨by omega, by omega⟩
    · rw [h.n, x3]; split <;> omega
  obtain ⟨_, _, w1, w2, w3, w4⟩ := joinD_is hk
  refine ⟨hk, w1, ?_, fun v => ?_, fun h2 v => ?_⟩
  · rw [w2, h.n, x3, hlen]; omega
  · rw [w3, h.c0, x4, hnum (·.m0)]; omega
  · rw [w4 h2, h.c1 h2, x5 h2, hnum (·.m1)]; omega
end
end Go.Bag
/-
  BATCHES, PLAIN: what a change, and what many, make of rows in order. My own work.
-/
namespace Go.Bag
open Go.Pl
def fnd (r : RowS) : List RowS → Int → Int
  | [], _ => -1
  | x :: l, i => if x = r then i else fnd r l (i + 1)
theorem fnd_is (r : RowS) : ∀ (l : List RowS) (i : Int), 0 ≤ i → fnd r l i = -1 ∨ ∃ k : Nat, fnd r l i = i + k ∧ k < l.length ∧ l.Perm (r :: (l.take k ++ l.drop (k + 1)))
  | [], i, _ => .inl rfl
  | x :: l, i, hi => by
    simp only [fnd]
    by_cases h : x = r
    · rw [if_pos h]
      exact .inr ⟨0, by simp, by simp, by subst h; simp⟩
    · rw [if_neg h]
      rcases fnd_is r l (i + 1) (by omega) with h | ⟨k, h1, h2, h3⟩
      · exact .inl h
      · refine .inr ⟨k + 1, by rw [h1]; omega, by simp; omega, ?_⟩
        simp only [List.take_succ_cons, List.drop_succ_cons, List.cons_append]
        exact (List.Perm.cons x h3).trans (List.Perm.swap r x _)
def outAt (l : List RowS) (k : Nat) : List RowS := l.take k ++ l.drop (k + 1)
def do2 (c : CatS) (l : List RowS) (del : Bool) (r : RowS) : List RowS × Int :=
  if goodR c r = false then (l, 7)
  else if del then (if fnd r l 0 < 0 then (l, 8) else (outAt l (fnd r l 0).toNat, 0))
  else if (massS 0 0 (insR l r)).isSome then (insR l r, 0) else (l, 9)
def fold2 (c : CatS) : List RowS → Int → List (Bool × RowS) → List RowS × Int × Int
  | l, _, [] => (l, 0, 0)
  | l, i, q :: qs => if (do2 c l q.1 q.2).2 = 0 then fold2 c (do2 c l q.1 q.2).1 (i + 1) qs else ([], i, (do2 c l q.1 q.2).2)
theorem do2_ok {c : CatS} {L : List RowS} {del : Bool} {r : RowS} (fL : fine L) (h : (do2 c L del r).2 = 0) :
    fine (do2 c L del r).1 ∧ (if del then L.Perm (r :: (do2 c L del r).1) else (do2 c L del r).1.Perm (r :: L)) := by
  unfold do2 at *
  by_cases g : goodR c r = false
  · rw [if_pos g] at h; simp at h
  · rw [if_neg g] at h ⊢
    cases del with
    | true =>
      simp only [if_true] at h ⊢
      by_cases k : fnd r L 0 < 0
      · rw [if_pos k] at h; simp at h
      · rw [if_neg k] at h ⊢
        rcases fnd_is r L 0 (by omega) with e | ⟨k, h1, h2, h3⟩
        · omega
        · have e : (fnd r L 0).toNat = k := by rw [h1]; omega
          rw [e]
          exact ⟨fine_tail (fine_perm h3 fL), h3⟩
    | false =>
      simp only [Bool.false_eq_true, if_false] at h ⊢
      split at h
      · rename_i hm
        rw [if_pos hm]
        exact ⟨fine_of hm, insR_perm _ _⟩
      · simp at h
theorem do2_mem {c : CatS} {L : List RowS} {del : Bool} {r x : RowS} (h : x ∈ (do2 c L del r).1) : x = r ∨ x ∈ L := by
  unfold do2 at h
  by_cases g : goodR c r = false
  · rw [if_pos g] at h; exact .inr h
  · rw [if_neg g] at h
    cases del with
    | true =>
      simp only [if_true] at h
      split at h
      · exact .inr h
      · unfold outAt at h
        rcases List.mem_append.mp h with h | h
        · exact .inr (List.mem_of_mem_take h)
        · exact .inr (List.mem_of_mem_drop h)
    | false =>
      simp only [Bool.false_eq_true, if_false] at h
      split at h
      · exact List.mem_cons.mp ((insR_perm L r).mem_iff.mp h)
      · exact .inr h
theorem do2_len {c : CatS} {L : List RowS} {del : Bool} {r : RowS} : (do2 c L del r).1.length ≤ L.length + 1 := by
  unfold do2
  by_cases g : goodR c r = false
  · rw [if_pos g]; show L.length ≤ _; omega
  · rw [if_neg g]
    cases del with
    | true =>
      simp only [if_true]
      split
      · show L.length ≤ _; omega
      · show (outAt L _).length ≤ _
        unfold outAt; simp; omega
    | false =>
      simp only [Bool.false_eq_true, if_false]
      split
      · show (insR L r).length ≤ _; rw [insR_len]; omega
      · show L.length ≤ _; omega
def foldT (c : CatS) (rows : List RowS) (ck : Int × Int) (l : List (Bool × RowS)) : List RowS × Int × Int :=
  if rowsOk c rows = false then ([], 0, 1) else if ck.2 ≠ 0 then ([], ck.1, ck.2) else fold2 c (sortR rows) 0 l
end Go.Bag
namespace Go.Proofs.Ytcmejdkjfekoeaa
open Go.Pl Go.Bag
set_option maxHeartbeats 16000000
set_option maxRecDepth 100000
theorem eq6_R (a b : RowS) : eqC true [LK.i, LK.i, LK.i, LK.i, LK.i, LK.i] (.agg (encRow a)) (.agg (encRow b)) = some (decide (a = b)) := by
  obtain ⟨⟨a0, a1, a2, a3⟩, a4, a5⟩ := a
  obtain ⟨⟨b0, b1, b2, b3⟩, b4, b5⟩ := b
  have : eqC true [LK.i, LK.i, LK.i, LK.i, LK.i, LK.i] (.agg (encRow ⟨⟨a0, a1, a2, a3⟩, a4, a5⟩)) (.agg (encRow ⟨⟨b0, b1, b2, b3⟩, b4, b5⟩)) = some ((a0 == b0) && ((a1 == b1) && ((a2 == b2) && ((a3 == b3) && ((a4 == b4) && ((a5 == b5) && true)))))) := by simp [eqC, shEq, encRow, encP]
  rw [this]
  congr 1
  by_cases h0 : a0 = b0 <;> by_cases h1 : a1 = b1 <;> by_cases h2 : a2 = b2 <;> by_cases h3 : a3 = b3 <;> by_cases h4 : a4 = b4 <;> by_cases h5 : a5 = b5 <;> simp [h0, h1, h2, h3, h4, h5]
def encBase (c : CatS) (l : List RowS) : List CV := [.sl (c.dims.map encDim), .int .i64 c.m, encRows l]
theorem fnd_loop {K : Ex → PS → Prop} (c : CatS) (l : List RowS) (hlen : l.length ≤ 100000) (r : RowS) (v3 : Nat) : ∀ (rest : List RowS) (i : Nat) (s : PS), l.drop i = rest → i ≤ l.length →
    s.t 0 = .ptr 0 0 0 → s.bx 0 = ⟨0, .var (encBase c l)⟩ → s.t 3 = .ptr 3 v3 0 → s.bx 3 = ⟨v3, .var (encRow r)⟩ → s.t 5 = .c (.int .i64 i) →
    (fnd r rest i = -1 → ∀ s' : PS, s'.bx 0 = ⟨0, .var (encBase c l)⟩ → K (.x 0) s') →
    (∀ k : Int, fnd r rest i = k → k ≠ -1 → ∀ s' : PS, s'.t 4 = .c (.int .i64 k) → s'.bx 0 = ⟨0, .var (encBase c l)⟩ → K .r s') → wP (PCallG Try.prog) (.loop b137_0) s K := by
  intro rest
  induction rest with
  | nil =>
    intro i s hd hi t0 b0 t3 b3 t5 hx hr
    refine w_loop ?_
    have := drop_end hd hi
    subst this
    unfold encBase at *
    rw [← put_same t0, ← box_same b0, ← put_same t3, ← box_same b3, ← put_same t5]
    unfold b137_0 r137_2 r137_3 r137_4 r137_5
    repeat' (first | refine len_sl rfl (List.length_map _) ?_ | refine w_seq ?_ | refine w_ops ?_ | refine st_nil ?_ | refine th_n ?_ | refine th_x ?_ | refine w_exit ?_ | refine w_false rfl ?_ | refine mv_c rfl ?_ | refine mv_ptr rfl ?_ | refine lss_f rfl rfl (by omega) ?_ | refine load_ptr rfl (by decide) rfl (Nat.le_of_ble_eq_true rfl) rfl ?_ | refine fad_ptr rfl rfl rfl ?_ | refine nilc_ptr rfl rfl ?_)
    exact hx rfl _ (by rfl)
  | cons x rest ih =>
    intro i s hd hi t0 b0 t3 b3 t5 hx hr
    refine w_loop ?_
    have he : (l.map encRow)[i]? = some (encRow x) := get_map hd
    have hil := get_slen hd
    have hn := drop_next hd
    have e := eq6_R x r
    simp only [fnd] at hx hr
    have ih := ih (i + 1)
    unfold encBase at *
    rw [← put_same t0, ← box_same b0, ← put_same t3, ← box_same b3, ← put_same t5]
    unfold encRow encP at he e b3
    unfold encRow encP
    unfold b137_0 r137_2 r137_3 r137_4 r137_5
    by_cases h : x = r
    · rw [decide_eq_true h] at e
      rw [if_pos h] at hr
      repeat' (first | refine len_sl rfl (List.length_map _) ?_ | refine eqs_t rfl rfl e ?_ | refine w_seq ?_ | refine w_ops ?_ | refine w_opsD0 rfl ?_ | refine st_nil ?_ | refine th_n ?_ | refine th_r ?_ | refine bk_r ?_ | refine w_block ?_ | refine w_skip ?_ | refine w_ret ?_ | refine w_true rfl ?_ | refine mv_c rfl ?_ | refine mv_ptr rfl ?_ | refine lss_t rfl rfl (by omega) ?_ | refine load_rp rfl (Nat.le_of_ble_eq_true rfl) rfl ?_ | refine load_ptr rfl (by decide) rfl (Nat.le_of_ble_eq_true rfl) rfl ?_ | refine fad_ptr rfl rfl rfl ?_ | refine iaS_c rfl rfl (by omega) (by assumption) rfl ?_ | refine nilc_ptr rfl rfl ?_)
      exact hr _ rfl (by omega) _ (by rfl) (by rfl)
    · rw [decide_eq_false h] at e
      rw [if_neg h] at hx hr
      repeat' (first | refine len_sl rfl (List.length_map _) ?_ | refine eqs_t rfl rfl e ?_ | refine w_seq ?_ | refine w_ops ?_ | refine w_opsD0 rfl ?_ | refine st_nil ?_ | refine th_n ?_ | refine bk_n ?_ | refine w_block ?_ | refine w_skip ?_ | refine w_true rfl ?_ | refine w_false rfl ?_ | refine mv_c rfl ?_ | refine mv_ptr rfl ?_ | refine lss_t rfl rfl (by omega) ?_ | refine add_in rfl rfl (by omega) ?_ | refine load_rp rfl (Nat.le_of_ble_eq_true rfl) rfl ?_ | refine load_ptr rfl (by decide) rfl (Nat.le_of_ble_eq_true rfl) rfl ?_ | refine fad_ptr rfl rfl rfl ?_ | refine iaS_c rfl rfl (by omega) (by assumption) rfl ?_ | refine nilc_ptr rfl rfl ?_)
      refine ih _ hn (by omega) (by rfl) (by rfl) (by rfl) (by rfl) (by rfl) ?_ ?_
      · rw [Int.natCast_succ]; exact hx
      · rw [Int.natCast_succ]; exact hr
theorem C_fnd (c : CatS) (l : List RowS) (hlen : l.length ≤ 100000) (r : RowS) : PCallG Try.prog 137 [.io (encBase c l), .c (.agg (encRow r))] (.c (.int .i64 (fnd r l 0))) [encBase c l] := by
  refine pcallI (cs := [.agg (encRow r)]) Try.func137 c137 ?_
  unfold p137 r137_0 r137_1 r137_6
  repeat' (first | refine w_seq ?_ | refine w_ops ?_ | refine st_nil ?_ | refine th_n ?_ | refine w_block ?_ | refine mv_c rfl ?_ | refine box_ rfl rfl rfl (fun u => ?_))
  refine fnd_loop c l hlen r _ l 0 _ rfl (by omega) (by rfl) (by rfl) (by rfl) (by rfl) (by rfl) (fun h s' b0 => ?_) (fun k h hk s' t4 b0 => ?_)
  · have h : fnd r l 0 = -1 := h
    rw [h, ← box_same b0]
    repeat' (first | refine w_seq ?_ | refine w_ops ?_ | refine st_nil ?_ | refine th_n ?_ | refine bk_x ?_ | refine w_ret ?_ | refine mv_c rfl ?_)
    exact fin_ri rfl rfl (by rfl)
  · have h : fnd r l 0 = k := h
    rw [h, ← put_same t4, ← box_same b0]
    repeat' (first | refine th_r ?_ | refine bk_r ?_)
    exact fin_ri rfl rfl (by rfl)
section
variable {C : CallP} {l : List POp} {s : PS} {K : PS → Prop} {d : Nat} {x y : PO} {z : Int}
theorem slc_sufz {sz : Nat} {k : IntKind} {es zs : List (List CV)} {j : Nat} (hx : s.ev x = .c (.sl es)) (hy : s.ev y = .c (.int k z)) (hzj : z = (j : Int)) (hj : j ≤ es.length) (hw : ∀ e ∈ es, e.length = sz) (hz : es.drop j = zs)
    (h : wL C l (s.put d (.c (.sl zs))) K) : wL C (⟨some d, .slc sz x (some y) none, none⟩ :: l) s K := by
  subst hzj; exact slc_suf hx hy hj hw hz h
theorem slc_prez {sz : Nat} {k : IntKind} {es zs : List (List CV)} {j : Nat} (hx : s.ev x = .c (.sl es)) (hy : s.ev y = .c (.int k z)) (hzj : z = (j : Int)) (hj : j ≤ es.length) (hw : ∀ e ∈ es, e.length = sz) (hz : es.take j = zs)
    (h : wL C l (s.put d (.c (.sl zs))) K) : wL C (⟨some d, .slc sz x none (some y), none⟩ :: l) s K := by
  subst hzj; exact slc_pre' hx hy hj hw hz h
end
theorem C_do (c : CatS) (h : okCat c) (l : List RowS) (hlen : l.length ≤ 10000) (hu : ∀ x ∈ l, u8P x.p) (hin : ∀ x ∈ l, inR x) (del : Bool) (r : RowS) (hp : u8P r.p) (hr : inR r) :
    PCallG Try.prog 114 [.io (encBase c l), .c (.agg (encChg (del, r)))] (.c (.int .i64 (do2 c l del r).2)) [encBase c (do2 c l del r).1] := by
  have c1 := C_r7Good c r h hp
  have c2 := C_fnd c l (by omega) r
  have c3 := C_rInsert l r (by omega) hu hp
  have hinI : ∀ x ∈ insR l r, inR x := fun x hx => by
    rcases List.mem_cons.mp ((insR_perm l r).mem_iff.mp hx) with rfl | hx
    · exact hr
    · exact hin x hx
  have c4 := C_rMass (insR l r) hinI (by rw [insR_len]; omega)
  have hfi := fnd_is r l 0 (by omega)
  refine pcallI (cs := [.agg (encChg (del, r))]) Try.func114 c114 ?_
  unfold do2
  generalize goodR c r = g at *
  generalize fnd r l 0 = f at *
  generalize insR l r = il at *
  have hw := encRow_len l
  obtain ⟨⟨p0, p1, p2, p3⟩, m0, m1⟩ := r
  show wP _ _ (initPS [.io (encBase c l), .c (.agg [.bool del, .int .u8 p0, .int .u8 p1, .int .u8 p2, .int .u8 p3, .int .i64 m0, .int .i64 m1])]) _
  unfold encCat encRow encP at c1
  unfold encRow encP at c2 c3
  simp only [List.cons_append, List.nil_append] at c1 c2 c3
  unfold encBase at *
  unfold p114 r114_0 r114_1 r114_2 r114_3 r114_4 r114_5 r114_6 r114_7 r114_8 r114_9 r114_10 r114_11 r114_12 r114_13
  cases g with
  | false =>
    rw [if_pos rfl]
    repeat' (first | refine call2 rfl rfl c1 ?_ | refine w_seq ?_ | refine w_ops ?_ | refine w_opsD0 rfl ?_ | refine st_nil ?_ | refine th_n ?_ | refine th_r ?_ | refine w_ret ?_ | refine w_true rfl ?_ | refine mv_c rfl ?_ | refine mv_ptr rfl ?_ | refine not_ rfl ?_ | refine box_ rfl rfl rfl (fun u => ?_) | refine load_ptr rfl (by decide) rfl (Nat.le_of_ble_eq_true rfl) rfl ?_ | refine fad_ptr rfl rfl rfl ?_ | refine nilc_ptr rfl rfl ?_)
    exact fin_ri rfl rfl (by rfl)
  | true =>
    rw [if_neg (by simp)]
    cases del with
    | true =>
      rw [if_pos rfl]
      by_cases hf : f < 0
      · rw [if_pos hf]
        repeat' (first | refine call2 rfl rfl c1 ?_ | refine callI1 rfl rfl rfl c2 ?_ | refine w_seq ?_ | refine w_ops ?_ | refine w_opsD0 rfl ?_ | refine st_nil ?_ | refine th_n ?_ | refine th_r ?_ | refine w_skip ?_ | refine w_ret ?_ | refine w_true rfl ?_ | refine w_false rfl ?_ | refine mv_c rfl ?_ | refine mv_ptr rfl ?_ | refine lss_t rfl rfl (by omega) ?_ | refine not_ rfl ?_ | refine box_ rfl rfl rfl (fun u => ?_) | refine load_ptr rfl (by decide) rfl (Nat.le_of_ble_eq_true rfl) rfl ?_ | refine fad_ptr rfl rfl rfl ?_ | refine nilc_ptr rfl rfl ?_)
        exact fin_ri rfl rfl (by rfl)
      · rw [if_neg hf]
        obtain ⟨k, hk, hkl⟩ : ∃ k : Nat, f = k ∧ k < l.length := by
          rcases hfi with e | ⟨k, h1, h2, _⟩
          · omega
          · exact ⟨k, by omega, h2⟩
        subst hk
        have e1 : ((k : Int)).toNat = k := by simp
        rw [e1]
        have hj : k ≤ (l.map encRow).length := by simp; omega
        have hj1 : k + 1 ≤ (l.map encRow).length := by simp; omega
        have hw1 : ∀ e ∈ (l.map encRow).take k, e.length = 6 := fun e he => hw e (List.mem_of_mem_take he)
        have hw2 : ∀ e ∈ (l.map encRow).drop (k + 1), e.length = 6 := fun e he => hw e (List.mem_of_mem_drop he)
        have g1 : ([] : List (List CV)).length + ((l.map encRow).take k).length ≤ maxGrow := by simp [maxGrow]; omega
        have g2 : ([] ++ (l.map encRow).take k).length + ((l.map encRow).drop (k + 1)).length ≤ maxGrow := by simp [maxGrow]; omega
        repeat' (first | refine call2 rfl rfl c1 ?_ | refine callI1 rfl rfl rfl c2 ?_ | refine slc_prez rfl rfl rfl hj hw rfl ?_ | refine slc_sufz rfl rfl (by omega) hj1 hw rfl ?_ | refine app_own rfl rfl rfl rfl g1 hw1 rfl rfl (fun _ _ => ?_) | refine app_cl rfl rfl rfl rfl g2 hw2 rfl (fun u => ?_) | refine w_seq ?_ | refine w_ops ?_ | refine w_opsD0 rfl ?_ | with_reducible refine lb_nil ?_ | with_reducible refine lb_x ?_ | refine lb_n rfl ?_ | refine lb_s rfl rfl ?_ | refine st_nil ?_ | refine th_n ?_ | refine th_r ?_ | refine w_skip ?_ | refine w_opsB2 rfl (fun u u => ?_) | refine w_ret ?_ | refine w_true rfl ?_ | refine w_false rfl ?_ | refine mv_c rfl ?_ | refine mv_ptr rfl ?_ | refine lss_f rfl rfl (by omega) ?_ | refine not_ rfl ?_ | refine add_in rfl rfl (by omega) ?_ | refine box_ rfl rfl rfl (fun u => ?_) | refine bsl_own rfl rfl rfl (fun u => ?_) | refine load_ptr rfl (by decide) rfl (Nat.le_of_ble_eq_true rfl) rfl ?_ | refine store_ptr rfl rfl (by decide) rfl rfl (Nat.le_of_ble_eq_true rfl) rfl ?_ | refine fad_ptr rfl rfl rfl ?_ | refine nilc_ptr rfl rfl ?_)
        refine fin_ri rfl rfl ?_
        show Box.mk 0 (.var [.sl (c.dims.map encDim), .int .i64 c.m, .sl ([] ++ (l.map encRow).take k ++ (l.map encRow).drop (k + 1))]) = _
        simp [outAt, encRows, List.map_take, List.map_drop]
    | false =>
      rw [if_neg (by simp)]
      cases hm : massS 0 0 il with
      | none =>
        rw [hm] at c4
        unfold massV at c4
        rw [if_neg (by simp)]
        repeat' (first | refine call2 rfl rfl c1 ?_ | refine callI1 rfl rfl rfl c2 ?_ | refine call2 rfl rfl c3 ?_ | refine call1 rfl c4 ?_ | refine w_seq ?_ | refine w_ops ?_ | refine w_opsD0 rfl ?_ | refine st_nil ?_ | refine th_n ?_ | refine th_r ?_ | refine w_skip ?_ | refine w_ret ?_ | refine w_true rfl ?_ | refine w_false rfl ?_ | refine mv_c rfl ?_ | refine mv_ptr rfl ?_ | refine not_ rfl ?_ | refine box_ rfl rfl rfl (fun u => ?_) | refine load_ptr rfl (by decide) rfl (Nat.le_of_ble_eq_true rfl) rfl ?_ | refine fad_ptr rfl rfl rfl ?_ | refine fld_ rfl (Nat.le_of_ble_eq_true rfl) rfl ?_ | refine nilc_ptr rfl rfl ?_)
        exact fin_ri rfl rfl (by rfl)
      | some ab =>
        obtain ⟨a, b⟩ := ab
        rw [hm] at c4
        unfold massV at c4
        rw [if_pos (by simp)]
        repeat' (first | refine call2 rfl rfl c1 ?_ | refine callI1 rfl rfl rfl c2 ?_ | refine call2 rfl rfl c3 ?_ | refine call1 rfl c4 ?_ | refine w_seq ?_ | refine w_ops ?_ | refine w_opsD0 rfl ?_ | refine st_nil ?_ | refine th_n ?_ | refine w_skip ?_ | refine w_ret ?_ | refine w_false rfl ?_ | refine mv_c rfl ?_ | refine mv_ptr rfl ?_ | refine not_ rfl ?_ | refine box_ rfl rfl rfl (fun u => ?_) | refine load_ptr rfl (by decide) rfl (Nat.le_of_ble_eq_true rfl) rfl ?_ | refine store_ptr rfl rfl (by decide) rfl rfl (Nat.le_of_ble_eq_true rfl) rfl ?_ | refine fad_ptr rfl rfl rfl ?_ | refine fld_ rfl (Nat.le_of_ble_eq_true rfl) rfl ?_ | refine nilc_ptr rfl rfl ?_)
        exact fin_ri rfl rfl (by rfl)
end Go.Proofs.Ytcmejdkjfekoeaa
namespace Go.Proofs.Ytcmejdkjfekoeaa
open Go.Pl Go.Bag
set_option maxHeartbeats 4000000
/-! What plain data read as, piece by piece. -/
theorem okL_cons {l : LF} {sh : List LF} {cs : List CV} (h : OkL (l :: sh) cs) : ∃ c cs', cs = c :: cs' ∧ LF.Ok l c ∧ OkL sh cs' := by
  obtain ⟨hl, he⟩ := h
  cases cs with
  | nil => simp at hl
  | cons c cs' =>
    refine ⟨c, cs', rfl, he 0 (by simp) (by simp), by simpa using hl, fun i h1 h2 => ?_⟩
    have := he (i + 1) (by simp; omega) (by simp; omega)
    simpa using this
theorem okL_nil {cs : List CV} (h : OkL [] cs) : cs = [] := List.eq_nil_of_length_eq_zero h.len
theorem ok_sl {sh : List LF} {c : CV} (h : LF.Ok (.sl sh) c) : ∃ es, c = .sl es ∧ es.length ≤ 9223372036854775807 ∧ ∀ e ∈ es, OkL sh e := by
  cases h with
  | sl _ es hn hl hh => exact ⟨es, rfl, hn, fun e he => ⟨hl e he, fun i h1 h2 => hh e he i h1 h2⟩⟩
theorem list_ok {α : Type} {f : α → List CV} {P : α → Prop} : ∀ {es : List (List CV)}, (∀ e ∈ es, ∃ a, e = f a ∧ P a) → ∃ l : List α, es = l.map f ∧ ∀ a ∈ l, P a
  | [], _ => ⟨[], rfl, by simp⟩
  | e :: es, h => by
    obtain ⟨a, rfl, ha⟩ := h e (by simp)
    obtain ⟨l, rfl, hl⟩ := list_ok (es := es) fun e he => h e (by simp [he])
    exact ⟨a :: l, rfl, fun x hx => by
      rcases List.mem_cons.mp hx with rfl | hx
      · exact ha
      · exact hl x hx⟩
theorem ok_sl_of {α : Type} {f : α → List CV} {P : α → Prop} {sh : List LF} {c : CV} (h : LF.Ok (.sl sh) c) (hf : ∀ e, OkL sh e → ∃ a, e = f a ∧ P a) : ∃ l : List α, c = .sl (l.map f) ∧ (∀ a ∈ l, P a) ∧ l.length ≤ 9223372036854775807 := by
  obtain ⟨es, rfl, hn, he⟩ := ok_sl h
  obtain ⟨l, rfl, hl⟩ := list_ok fun e h => hf e (he e h)
  exact ⟨l, rfl, hl, by simpa using hn⟩
theorem okL_place {sh : List LF} {cs : List CV} (h : OkL (.int .u8 :: .int .u8 :: .int .u8 :: .int .u8 :: sh) cs) : ∃ (p : Go.Bag.Place) (cs' : List CV), cs = encP p ++ cs' ∧ u8P p ∧ OkL sh cs' := by
  obtain ⟨c0, k0, rfl, h0, g1⟩ := okL_cons h
  obtain ⟨c1, k1, rfl, h1, g2⟩ := okL_cons g1
  obtain ⟨c2, k2, rfl, h2, g3⟩ := okL_cons g2
  obtain ⟨c3, k3, rfl, h3, g4⟩ := okL_cons g3
  obtain ⟨a0, rfl, q0⟩ := ok_u8 h0
  obtain ⟨a1, rfl, q1⟩ := ok_u8 h1
  obtain ⟨a2, rfl, q2⟩ := ok_u8 h2
  obtain ⟨a3, rfl, q3⟩ := ok_u8 h3
  refine ⟨⟨a0, a1, a2, a3⟩, k3, rfl, fun x hx => ?_, g4⟩
  simp only [placeL, List.mem_cons, List.not_mem_nil, or_false] at hx
  rcases hx with rfl | rfl | rfl | rfl <;> assumption
def rowIn (r : RowS) : Prop := u8P r.p ∧ inR r
theorem okL_row {cs : List CV} (h : OkL [.int .u8, .int .u8, .int .u8, .int .u8, .int .i64, .int .i64] cs) : ∃ r : RowS, cs = encRow r ∧ rowIn r := by
  obtain ⟨p, k, rfl, hp, g0⟩ := okL_place h
  obtain ⟨c4, k4, rfl, h4, g1⟩ := okL_cons g0
  obtain ⟨c5, k5, rfl, h5, g2⟩ := okL_cons g1
  obtain rfl := okL_nil g2
  obtain ⟨m0, rfl, q0⟩ := ok_i64 h4
  obtain ⟨m1, rfl, q1⟩ := ok_i64 h5
  exact ⟨⟨p, m0, m1⟩, rfl, hp, q0, q1⟩
theorem ok_rows7 {c : CV} (h : LF.Ok (.sl [.int .u8, .int .u8, .int .u8, .int .u8, .int .i64, .int .i64]) c) : ∃ l : List RowS, c = encRows l ∧ (∀ r ∈ l, rowIn r) ∧ l.length ≤ 9223372036854775807 :=
  ok_sl_of h fun _ he => okL_row he
theorem ok_chg7 {c : CV} (h : LF.Ok (.sl [.bool, .int .u8, .int .u8, .int .u8, .int .u8, .int .i64, .int .i64]) c) : ∃ l : List (Bool × RowS), c = encL7 l ∧ (∀ q ∈ l, rowIn q.2) ∧ l.length ≤ 9223372036854775807 :=
  ok_sl_of h fun e he => by
    obtain ⟨c0, k0, rfl, h0, g1⟩ := okL_cons he
    obtain ⟨b, rfl⟩ := ok_bool h0
    obtain ⟨r, rfl, hr⟩ := okL_row g1
    exact ⟨(b, r), rfl, hr⟩
theorem okL_cat {sh : List LF} {cs : List CV} (h : OkL (.sl [.sl [.int .i64], .sl [.sl [.int .i64]]] :: .int .i64 :: sh) cs) : ∃ (c : CatS) (cs' : List CV), cs = encCat c ++ cs' ∧ okCat c ∧ in64 c.m ∧ OkL sh cs' := by
  obtain ⟨c0, k0, rfl, h0, g1⟩ := okL_cons h
  obtain ⟨c1, k1, rfl, h1, g2⟩ := okL_cons g1
  obtain ⟨m, rfl, qm⟩ := ok_i64 h1
  obtain ⟨ds, rfl, hd, hn⟩ := ok_sl_of (f := encDim) (P := okDim) h0 fun e he => by
    obtain ⟨c0, k0, rfl, h0, g3⟩ := okL_cons he
    obtain ⟨c1, k1, rfl, h1, g4⟩ := okL_cons g3
    obtain rfl := okL_nil g4
    have hi : ∀ {c : CV}, LF.Ok (.sl [.int .i64]) c → ∃ l : List Int, c = encIs l ∧ l.length ≤ 9223372036854775807 := fun hc => by
      obtain ⟨l, rfl, _, hl⟩ := ok_sl_of (f := fun n : Int => [CV.int .i64 n]) (P := fun _ => True) hc fun e he => by
        obtain ⟨c0, k0, rfl, h0, g5⟩ := okL_cons he
        obtain rfl := okL_nil g5
        obtain ⟨n, rfl, _⟩ := ok_i64 h0
        exact ⟨n, rfl, trivial⟩
      exact ⟨l, rfl, hl⟩
    obtain ⟨sz, rfl, hsz⟩ := hi h0
    obtain ⟨up, rfl, _, hup⟩ := ok_sl_of (f := fun l : List Int => [encIs l]) (P := fun _ => True) h1 fun e he => by
      obtain ⟨c0, k0, rfl, h0, g6⟩ := okL_cons he
      obtain rfl := okL_nil g6
      obtain ⟨l, rfl, _⟩ := hi h0
      exact ⟨l, rfl, trivial⟩
    exact ⟨⟨sz, up⟩, rfl, hsz, hup⟩
  exact ⟨⟨ds, m⟩, k1, rfl, ⟨hn, hd⟩, qm, g2⟩
end Go.Proofs.Ytcmejdkjfekoeaa
namespace Go.Proofs.Ytcmejdkjfekoeaa
open Go.Pl Go.Bag
set_option maxHeartbeats 16000000
set_option maxRecDepth 100000
end Go.Proofs.Ytcmejdkjfekoeaa
namespace Go.Proofs.Ytcmejdkjfekoeaa
open Go.Pl Go.Bag
set_option maxHeartbeats 16000000
set_option maxRecDepth 100000
end Go.Proofs.Ytcmejdkjfekoeaa
namespace Go.Proofs.Ytcmejdkjfekoeaa
open Go.Pl Go.Bag
set_option maxHeartbeats 16000000
theorem same_B (j k : List Run) (hj : j.length ≤ 1000000) (hk : k.length ≤ 1000000) : PCallG Try.prog 29 [.c (encL j), .c (encL k)] (.c (.bool (decide (j = k)))) [] := C_Same j k (by omega) (by omega)
theorem eq2_of (a b c d : Int) : eqC true [LK.i, LK.i] (.agg [.int .i64 a, .int .i64 b]) (.agg [.int .i64 c, .int .i64 d]) = some (decide (a = c ∧ b = d)) := by
  have : eqC true [LK.i, LK.i] (.agg [.int .i64 a, .int .i64 b]) (.agg [.int .i64 c, .int .i64 d]) = some ((a == c) && ((b == d) && true)) := by simp [eqC, shEq]
  rw [this]
  congr 1
  by_cases h1 : a = c <;> by_cases h2 : b = d <;> simp [h1, h2]
theorem C_cSame (a b : Cell) (ha : a.b0.length ≤ 1000000 ∧ a.b1.length ≤ 1000000) (hb : b.b0.length ≤ 1000000 ∧ b.b1.length ≤ 1000000) : PCallG Try.prog 53 [.c (encCell a), .c (encCell b)] (.c (.bool (decide (a = b)))) [] := by
  obtain ⟨n, s0, s1, b0, b1⟩ := a
  obtain ⟨k, t0, t1, d0, d1⟩ := b
  simp only at ha hb
  show PCallG _ 53 [.c (.agg [.int .i64 n, .int .i64 s0, .int .i64 s1, encL b0, encL b1]), .c (.agg [.int .i64 k, .int .i64 t0, .int .i64 t1, encL d0, encL d1])] _ _
  refine pcallF Try.func53 c53 rfl ?_
  have c1 := same_B b0 d0 ha.1 hb.1
  have c2 := same_B b1 d1 ha.2 hb.2
  have e := eq2_of s0 s1 t0 t1
  unfold p53 r53_0 r53_1 r53_2 r53_3 r53_9
  by_cases h1 : n = k
  · by_cases h2 : s0 = t0 ∧ s1 = t1
    · rw [decide_eq_true h2] at e
      repeat' (first | refine eqs_f rfl rfl e ?_ | refine w_seq ?_ | refine w_ops ?_ | refine st_nil ?_ | refine th_n ?_ | refine w_block ?_ | refine w_skip ?_ | refine w_false rfl ?_ | refine g_yes rfl ?_ | refine mv_c rfl ?_ | refine pick_f rfl rfl ?_ | refine neq_f rfl rfl (by omega) ?_ | refine box_ rfl rfl rfl (fun u => ?_) | refine load_ptr rfl (by decide) rfl (Nat.le_of_ble_eq_true rfl) rfl ?_ | refine fad_ptr rfl rfl rfl ?_)
      refine w_loop ?_
      unfold b53_0 r53_4 r53_5 r53_6 r53_7 r53_8
      by_cases h3 : b0 = d0
      · rw [decide_eq_true h3] at c1
        repeat' (first | refine call2 rfl rfl c1 ?_ | refine w_seq ?_ | refine w_ops ?_ | refine w_opsD0 rfl ?_ | refine st_nil ?_ | refine th_n ?_ | refine bk_n ?_ | refine w_block ?_ | refine w_skip ?_ | refine w_true rfl ?_ | refine w_false rfl ?_ | refine mv_c rfl ?_ | refine lss_t rfl rfl (by omega) ?_ | refine not_ rfl ?_ | refine add_in rfl rfl (by omega) ?_ | refine load_ptr rfl (by decide) rfl (Nat.le_of_ble_eq_true rfl) rfl ?_ | refine fad_ptr rfl rfl rfl ?_ | refine iaA_ptr rfl rfl rfl (by omega) rfl ?_)
        refine w_loop ?_
        by_cases h4 : b1 = d1
        · rw [decide_eq_true h4] at c2
          rw [decide_eq_true (by rw [h1, h2.1, h2.2, h3, h4])]
          repeat' (first | refine call2 rfl rfl c2 ?_ | refine w_seq ?_ | refine w_ops ?_ | refine w_opsD0 rfl ?_ | refine st_nil ?_ | refine th_n ?_ | refine bk_n ?_ | refine w_block ?_ | refine w_skip ?_ | refine w_true rfl ?_ | refine w_false rfl ?_ | refine mv_c rfl ?_ | refine lss_t rfl rfl (by omega) ?_ | refine not_ rfl ?_ | refine add_in rfl rfl (by omega) ?_ | refine load_ptr rfl (by decide) rfl (Nat.le_of_ble_eq_true rfl) rfl ?_ | refine fad_ptr rfl rfl rfl ?_ | refine iaA_ptr rfl rfl rfl (by omega) rfl ?_)
          refine w_loop ?_
          repeat' (first | refine w_seq ?_ | refine w_ops ?_ | refine st_nil ?_ | refine th_n ?_ | refine th_x ?_ | refine bk_x ?_ | refine w_exit ?_ | refine w_ret ?_ | refine w_false rfl ?_ | refine mv_c rfl ?_ | refine lss_f rfl rfl (by omega) ?_)
          exact fin_r rfl rfl
        · rw [decide_eq_false h4] at c2
          rw [decide_eq_false (by intro h; exact h4 (congrArg Cell.b1 h))]
          repeat' (first | refine call2 rfl rfl c2 ?_ | refine w_seq ?_ | refine w_ops ?_ | refine w_opsD0 rfl ?_ | refine st_nil ?_ | refine th_n ?_ | refine th_r ?_ | refine bk_r ?_ | refine w_block ?_ | refine w_skip ?_ | refine w_ret ?_ | refine w_true rfl ?_ | refine mv_c rfl ?_ | refine lss_t rfl rfl (by omega) ?_ | refine not_ rfl ?_ | refine load_ptr rfl (by decide) rfl (Nat.le_of_ble_eq_true rfl) rfl ?_ | refine fad_ptr rfl rfl rfl ?_ | refine iaA_ptr rfl rfl rfl (by omega) rfl ?_)
          exact fin_r rfl rfl
      · rw [decide_eq_false h3] at c1
        rw [decide_eq_false (by intro h; exact h3 (congrArg Cell.b0 h))]
        repeat' (first | refine call2 rfl rfl c1 ?_ | refine w_seq ?_ | refine w_ops ?_ | refine w_opsD0 rfl ?_ | refine st_nil ?_ | refine th_n ?_ | refine th_r ?_ | refine bk_r ?_ | refine w_block ?_ | refine w_skip ?_ | refine w_ret ?_ | refine w_true rfl ?_ | refine mv_c rfl ?_ | refine lss_t rfl rfl (by omega) ?_ | refine not_ rfl ?_ | refine load_ptr rfl (by decide) rfl (Nat.le_of_ble_eq_true rfl) rfl ?_ | refine fad_ptr rfl rfl rfl ?_ | refine iaA_ptr rfl rfl rfl (by omega) rfl ?_)
        exact fin_r rfl rfl
    · rw [decide_eq_false h2] at e
      rw [decide_eq_false (by intro h; exact h2 ⟨congrArg Cell.s0 h, congrArg Cell.s1 h⟩)]
      repeat' (first | refine eqs_f rfl rfl e ?_ | refine w_seq ?_ | refine w_ops ?_ | refine st_nil ?_ | refine th_n ?_ | refine th_r ?_ | refine w_ret ?_ | refine w_true rfl ?_ | refine g_yes rfl ?_ | refine mv_c rfl ?_ | refine pick_f rfl rfl ?_ | refine neq_f rfl rfl (by omega) ?_ | refine box_ rfl rfl rfl (fun u => ?_) | refine load_ptr rfl (by decide) rfl (Nat.le_of_ble_eq_true rfl) rfl ?_ | refine fad_ptr rfl rfl rfl ?_)
      exact fin_r rfl rfl
  · rw [decide_eq_false (by intro h; exact h1 (congrArg Cell.n h))]
    repeat' (first | refine w_seq ?_ | refine w_ops ?_ | refine st_nil ?_ | refine th_n ?_ | refine th_r ?_ | refine w_ret ?_ | refine w_true rfl ?_ | refine g_no rfl ?_ | refine mv_c rfl ?_ | refine pick_t rfl rfl ?_ | refine neq_t rfl rfl (by omega) ?_ | refine box_ rfl rfl rfl (fun u => ?_) | refine load_ptr rfl (by decide) rfl (Nat.le_of_ble_eq_true rfl) rfl ?_ | refine fad_ptr rfl rfl rfl ?_)
    exact fin_r rfl rfl
end Go.Proofs.Ytcmejdkjfekoeaa
namespace Go.Proofs.Ytcmejdkjfekoeaa
open Go.Pl Go.Bag
set_option maxHeartbeats 16000000
end Go.Proofs.Ytcmejdkjfekoeaa
namespace Go.Proofs.Ytcmejdkjfekoeaa
open Go.Pl Go.Bag
set_option maxHeartbeats 16000000
set_option maxRecDepth 100000
end Go.Proofs.Ytcmejdkjfekoeaa
namespace Go.Proofs.Ytcmejdkjfekoeaa
open Go.Pl Go.Bag
set_option maxHeartbeats 16000000
set_option maxRecDepth 100000
end Go.Proofs.Ytcmejdkjfekoeaa
namespace Go.Proofs.Ytcmejdkjfekoeaa
open Go.Pl Go.Bag
set_option maxHeartbeats 16000000
set_option maxRecDepth 100000
def fitsC (m : Int) (l : List RowS) : Prop := in64 (sumI (l.map (·.m0))) ∧ (m = 2 → in64 (sumI (l.map (·.m1))))
instance (m : Int) (l : List RowS) : Decidable (fitsC m l) := by unfold fitsC; infer_instance
theorem ofC_ok {m : Int} (hm : 1 ≤ m ∧ m ≤ 2) {l : List RowS} : (ofC m l).2 = true ↔ l ≠ [] ∧ fitsC m l := by
  unfold ofC fitsC
  by_cases h : (1 ≤ m ∧ m ≤ 2) ∧ l ≠ [] ∧ in64 (sumI (l.map (·.m0))) ∧ (m = 2 → in64 (sumI (l.map (·.m1))))
  · rw [if_pos h]; exact ⟨fun _ => h.2, fun _ => rfl⟩
  · rw [if_neg h]; exact ⟨fun h' => (by cases h'), fun h' => absurd ⟨hm, h'⟩ h⟩
theorem ofC_eq {m : Int} {l : List RowS} (h : (ofC m l).2 = true) : ofC m l = (⟨l.length, sumI (l.map (·.m0)), if m = 2 then sumI (l.map (·.m1)) else 0, ofL (l.map (·.m0)), if m = 2 then ofL (l.map (·.m1)) else []⟩, true) := by
  unfold ofC at h ⊢
  split
  · rfl
  · rename_i h'; rw [if_neg h'] at h; cases h
theorem ofC_no {m : Int} {l : List RowS} (h : (ofC m l).2 = false) : ofC m l = (zeroC, false) := by
  unfold ofC at h ⊢
  split
  · rename_i h'; rw [if_pos h'] at h; cases h
  · rfl
theorem inC_zero9 : inC 1000 zeroC := ⟨by decide, by decide, by decide, fun q hq => by simp [zeroC] at hq, fun q hq => by simp [zeroC] at hq, by decide, by decide⟩
theorem inC_ofC {m : Int} {l : List RowS} (hl : l.length ≤ 1000) (hr : ∀ r ∈ l, inR r) : inC 1000 (ofC m l).1 := by
  cases h : (ofC m l).2 with
  | false => rw [ofC_no h]; exact inC_zero9
  | true =>
    have hm : 1 ≤ m ∧ m ≤ 2 := by
      unfold ofC at h
      split at h
      · rename_i h'; exact h'.1
      · cases h
    obtain ⟨_, f0, f1⟩ := (ofC_ok hm).mp h
    have r0 : ∀ a ∈ l.map (·.m0), I64 a := fun a ha => by obtain ⟨r, hr', rfl⟩ := List.mem_map.mp ha; exact (hr r hr').1
    have r1 : ∀ a ∈ l.map (·.m1), I64 a := fun a ha => by obtain ⟨r, hr', rfl⟩ := List.mem_map.mp ha; exact (hr r hr').2
    have k0 := (ofL_facts (l.map (·.m0))).2.2.2.2
    have k1 := (ofL_facts (l.map (·.m1))).2.2.2.2
    simp only [List.length_map] at k0 k1
    rw [ofC_eq h]
    by_cases hm2 : m = 2
    · simp only [if_pos hm2]
      exact ⟨by simp only [in64]; omega, f0, f1 hm2, ranged_ofL r0 (by simp; omega), ranged_ofL r1 (by simp; omega), (by show (ofL (l.map (·.m0))).length ≤ 1000; omega), (by show (ofL (l.map (·.m1))).length ≤ 1000; omega)⟩
    · simp only [if_neg hm2]
      exact ⟨by simp only [in64]; omega, f0, (by show in64 0; decide), ranged_ofL r0 (by simp; omega), (fun q hq => by simp at hq), (by show (ofL (l.map (·.m0))).length ≤ 1000; omega), (by show ([] : List Run).length ≤ 1000; simp)⟩
end Go.Proofs.Ytcmejdkjfekoeaa
namespace Go.Proofs.Ytcmejdkjfekoeaa
open Go.Pl Go.Bag
set_option maxHeartbeats 16000000
set_option maxRecDepth 100000
theorem C_Sub (a b : Int) (ha : I64 a) (hb : I64 b) : PCallG Try.prog 109 [.c (.int .i64 a), .c (.int .i64 b)] (.c (if I64 (a - b) then .tup [.int .i64 (a - b), .bool true] else .tup [.int .i64 0, .bool false])) [] := by
  refine pcallF Try.func109 c109 rfl ?_
  obtain ⟨a1, a2⟩ := id ha
  obtain ⟨b1, b2⟩ := id hb
  have c1 := C_Plus 0 a 1 (by constructor <;> omega) ha (by constructor <;> omega) (by constructor <;> omega)
  rw [show (0 : Int) + a * 1 = a by omega] at c1
  have c2 := C_Plus a b (-1) (by constructor <;> omega) hb (by constructor <;> omega) (by constructor <;> omega)
  rw [show a + b * -1 = a - b by omega] at c2
  have c3 := C_Int (a - b) (by constructor <;> omega)
  unfold p109 r109_0 r109_1
  by_cases h : I64 (a - b)
  · rw [if_pos h] at c3 ⊢
    repeat' (first | refine call3 rfl rfl rfl c1 ?_ | refine call3 rfl rfl rfl c2 ?_ | refine call1 rfl c3 ?_ | refine w_seq ?_ | refine w_ops ?_ | refine st_nil ?_ | refine th_n ?_ | refine w_ret ?_ | refine mv_c rfl ?_ | refine build_ rfl rfl ?_ | refine ext_ rfl rfl ?_)
    exact fin_r rfl rfl
  · rw [if_neg h] at c3 ⊢
    repeat' (first | refine call3 rfl rfl rfl c1 ?_ | refine call3 rfl rfl rfl c2 ?_ | refine call1 rfl c3 ?_ | refine w_seq ?_ | refine w_ops ?_ | refine st_nil ?_ | refine th_n ?_ | refine w_ret ?_ | refine mv_c rfl ?_ | refine build_ rfl rfl ?_ | refine ext_ rfl rfl ?_)
    exact fin_r rfl rfl
theorem C_calcNeg (a : Int) (ha : I64 a) : PCallG Try.prog 102 [.c (.int .i64 a)] (.c (if I64 (-a) then .tup [.int .i64 (-a), .bool true] else .tup [.int .i64 0, .bool false])) [] := by
  refine pcallF Try.func102 c102 rfl ?_
  have c1 := C_Sub 0 a (by constructor <;> omega) ha
  rw [Int.zero_sub] at c1
  unfold p102 r102_0 r102_1
  by_cases h : I64 (-a)
  · rw [if_pos h] at c1 ⊢
    repeat' (first | refine call2 rfl rfl c1 ?_ | refine w_seq ?_ | refine w_ops ?_ | refine st_nil ?_ | refine th_n ?_ | refine w_ret ?_ | refine mv_c rfl ?_ | refine ext_ rfl rfl ?_)
    exact fin_r rfl rfl
  · rw [if_neg h] at c1 ⊢
    repeat' (first | refine call2 rfl rfl c1 ?_ | refine w_seq ?_ | refine w_ops ?_ | refine st_nil ?_ | refine th_n ?_ | refine w_ret ?_ | refine mv_c rfl ?_ | refine ext_ rfl rfl ?_)
    exact fin_r rfl rfl
theorem apart_loop {K : Ex → PS → Prop} (b : List Run) (hb : b.length < 4611686018427387904) (gb : good b = true) (l : List Run) (hlen : l.length < 4611686018427387904) : ∀ (rest : List Run) (i : Nat) (s : PS), l.drop i = rest → i ≤ l.length →
    s.t 7 = .c (encL l) → s.t 8 = .c (.int .i64 l.length) → s.t 9 = .c (.int .i64 i) → s.t 1 = .c (encL b) →
    (apartL rest b = true → ∀ s', K (.x 0) s') → (apartL rest b = false → ∀ s', s'.t 4 = .c (.bool false) → K .r s') → wP (PCallG Try.prog) (.loop b130_0) s K := by
  intro rest
  induction rest with
  | nil =>
    intro i s hd hi t7 t8 t9 t1 hx hr
    refine w_loop ?_
    have := get_end hd hi
    subst this
    rw [← put_same t8, ← put_same t9]
    unfold b130_0 r130_2 r130_3 r130_4 r130_5 r130_6
    repeat' (first | refine w_seq ?_ | refine w_ops ?_ | refine st_nil ?_ | refine th_n ?_ | refine th_x ?_ | refine w_exit ?_ | refine w_false rfl ?_ | refine lss_f rfl rfl (by omega) ?_)
    exact hx rfl _
  | cons r rest ih =>
    intro i s hd hi t7 t8 t9 t1 hx hr
    refine w_loop ?_
    have he := get_enc hd
    have hl := get_len hd
    have hn := get_next hd
    have hC := C_Has b r.1 hb
    rw [if_pos gb] at hC
    rw [← put_same t7, ← put_same t8, ← put_same t9, ← put_same t1]
    unfold b130_0 r130_2 r130_3 r130_4 r130_5 r130_6
    by_cases h : 0 < has b r.1
    · have e : apartL (r :: rest) b = false := by
        simp only [apartL, List.all_cons, Bool.and_eq_false_iff, decide_eq_false_iff_not]; exact .inl (by omega)
      repeat' (first | refine call2 rfl rfl hC ?_ | refine w_seq ?_ | refine w_ops ?_ | refine st_nil ?_ | refine th_n ?_ | refine th_r ?_ | refine bk_r ?_ | refine w_block ?_ | refine w_skip ?_ | refine w_ret ?_ | refine w_true rfl ?_ | refine mv_c rfl ?_ | refine lss_t rfl rfl (by omega) ?_ | refine gtr_t rfl rfl (by omega) ?_ | refine alloc_ (fun u => ?_) | refine load_rp rfl (Nat.le_of_ble_eq_true rfl) rfl ?_ | refine load_ptr rfl (by decide) rfl (Nat.le_of_ble_eq_true rfl) rfl ?_ | refine store_ptr rfl rfl (by decide) rfl rfl (Nat.le_of_ble_eq_true rfl) rfl ?_ | refine fad_ptr rfl rfl rfl ?_ | refine iaS_c rfl rfl (by omega) (by assumption) rfl ?_)
      exact hr e _ (by rfl)
    · have e : apartL (r :: rest) b = apartL rest b := by
        simp only [apartL, List.all_cons]; rw [decide_eq_true (by omega), Bool.true_and]
      rw [e] at hx hr
      repeat' (first | refine call2 rfl rfl hC ?_ | refine w_seq ?_ | refine w_ops ?_ | refine st_nil ?_ | refine th_n ?_ | refine bk_n ?_ | refine w_block ?_ | refine w_skip ?_ | refine w_true rfl ?_ | refine w_false rfl ?_ | refine mv_c rfl ?_ | refine lss_t rfl rfl (by omega) ?_ | refine gtr_f rfl rfl (by omega) ?_ | refine add_in rfl rfl (by omega) ?_ | refine alloc_ (fun u => ?_) | refine load_rp rfl (Nat.le_of_ble_eq_true rfl) rfl ?_ | refine load_ptr rfl (by decide) rfl (Nat.le_of_ble_eq_true rfl) rfl ?_ | refine store_ptr rfl rfl (by decide) rfl rfl (Nat.le_of_ble_eq_true rfl) rfl ?_ | refine fad_ptr rfl rfl rfl ?_ | refine iaS_c rfl rfl (by omega) (by assumption) rfl ?_)
      exact ih (i + 1) _ hn (by omega) (by rfl) (by rfl) (by rfl) (by rfl) hx hr
theorem C_apart (a b : List Run) (ha : a.length < 4611686018427387904) (hb : b.length < 4611686018427387904) (gb : good b = true) : PCallG Try.prog 130 [.c (encL a), .c (encL b)] (.c (.bool (apartL a b))) [] := by
  refine pcallF Try.func130 c130 rfl ?_
  unfold p130 r130_0 r130_1 r130_7
  repeat' (first | refine len_sl rfl (List.length_map _) ?_ | refine w_seq ?_ | refine w_ops ?_ | refine st_nil ?_ | refine th_n ?_ | refine w_block ?_ | refine mv_c rfl ?_)
  refine apart_loop b hb gb a ha a 0 _ rfl (by omega) (by rfl) (by rfl) (by rfl) (by rfl) (fun h s' => ?_) (fun h s' h4 => ?_)
  · rw [h]
    repeat' (first | refine w_seq ?_ | refine w_ops ?_ | refine st_nil ?_ | refine th_n ?_ | refine bk_x ?_ | refine w_ret ?_ | refine mv_c rfl ?_)
    exact fin_r rfl rfl
  · rw [h, ← put_same h4]
    repeat' (first | refine th_r ?_ | refine bk_r ?_)
    exact fin_r rfl rfl
theorem C_measure (n s : Int) (a b : List Run) (ha : a.length < 4611686018427387904) (hb : b.length < 4611686018427387904) (ra : ranged a) (rb : ranged b) (hs : I64 s) :
    PCallG Try.prog 104 [.c (.int .i64 n), .c (.int .i64 s), .c (encL a), .c (encL b)] (.c (.bool (mD n s a b))) [] := by
  refine pcallF Try.func104 c104 rfl ?_
  have c1 := C_good a ha
  have c2 := C_good b hb
  have c4 := C_Count a ha
  have c5 := C_Count b hb
  unfold p104 r104_0 r104_1 r104_2 r104_3 r104_4
  cases ga : good a with
  | false =>
    rw [ga] at c1
    rw [show mD n s a b = false by simp [mD, ga]]
    repeat' (first | refine call1 rfl c1 ?_ | refine w_seq ?_ | refine w_ops ?_ | refine st_nil ?_ | refine th_n ?_ | refine th_r ?_ | refine w_ret ?_ | refine w_true rfl ?_ | refine g_no rfl ?_ | refine mv_c rfl ?_ | refine pick_t rfl rfl ?_ | refine not_ rfl ?_)
    exact fin_r rfl rfl
  | true =>
    rw [ga] at c1
    rw [if_pos ga] at c4
    cases gb : good b with
    | false =>
      rw [gb] at c2
      rw [show mD n s a b = false by simp [mD, gb]]
      repeat' (first | refine call1 rfl c1 ?_ | refine call1 rfl c2 ?_ | refine w_seq ?_ | refine w_ops ?_ | refine st_nil ?_ | refine th_n ?_ | refine th_r ?_ | refine w_ret ?_ | refine w_true rfl ?_ | refine g_yes rfl ?_ | refine g_no rfl ?_ | refine mv_c rfl ?_ | refine pick_t rfl rfl ?_ | refine pick_f rfl rfl ?_ | refine not_ rfl ?_)
      exact fin_r rfl rfl
    | true =>
      rw [gb] at c2
      rw [if_pos gb] at c5
      have c3 := C_apart a b ha hb gb
      obtain ⟨pa, sa⟩ := good_facts ga
      obtain ⟨pb, sb⟩ := good_facts gb
      have na := sum_nonneg pa
      have nb := sum_nonneg pb
      have h0 : cap = 1099511627776 := rfl
      rw [h0] at sa sb
      have wa := wsum_bound pa ra
      have wb := wsum_bound pb rb
      cases hp : apartL a b with
      | false =>
        rw [hp] at c3
        rw [show mD n s a b = false by simp [mD, hp]]
        repeat' (first | refine call1 rfl c1 ?_ | refine call1 rfl c2 ?_ | refine call2 rfl rfl c3 ?_ | refine w_seq ?_ | refine w_ops ?_ | refine st_nil ?_ | refine th_n ?_ | refine th_r ?_ | refine w_ret ?_ | refine w_true rfl ?_ | refine g_yes rfl ?_ | refine g_no rfl ?_ | refine mv_c rfl ?_ | refine pick_t rfl rfl ?_ | refine pick_f rfl rfl ?_ | refine not_ rfl ?_)
        exact fin_r rfl rfl
      | true =>
        rw [hp] at c3
        by_cases hn : sum a - sum b = n
        · have c6 := C_Part a b ha hb pa ra sa pb rb sb
          have c7 := C_Int (wsum a - wsum b) (by constructor <;> omega)
          by_cases hw : I64 (wsum a - wsum b)
          · rw [if_pos hw] at c7
            by_cases hv : wsum a - wsum b = s
            · rw [show mD n s a b = true by simp [mD, ga, gb, hp, hn, hv]]
              repeat' (first | refine call1 rfl c1 ?_ | refine call1 rfl c2 ?_ | refine call2 rfl rfl c3 ?_ | refine call1 rfl c4 ?_ | refine call1 rfl c5 ?_ | refine call2 rfl rfl c6 ?_ | refine call1 rfl c7 ?_ | refine w_seq ?_ | refine w_ops ?_ | refine st_nil ?_ | refine th_n ?_ | refine w_skip ?_ | refine w_ret ?_ | refine w_false rfl ?_ | refine g_yes rfl ?_ | refine mv_c rfl ?_ | refine pick_t rfl rfl ?_ | refine pick_f rfl rfl ?_ | refine eql_t rfl rfl (by omega) ?_ | refine neq_f rfl rfl (by omega) ?_ | refine not_ rfl ?_ | refine sub_in rfl rfl (by omega) ?_ | refine ext_ rfl rfl ?_)
              exact fin_r rfl rfl
            · rw [show mD n s a b = false by simp [mD, hv]]
              repeat' (first | refine call1 rfl c1 ?_ | refine call1 rfl c2 ?_ | refine call2 rfl rfl c3 ?_ | refine call1 rfl c4 ?_ | refine call1 rfl c5 ?_ | refine call2 rfl rfl c6 ?_ | refine call1 rfl c7 ?_ | refine w_seq ?_ | refine w_ops ?_ | refine st_nil ?_ | refine th_n ?_ | refine w_skip ?_ | refine w_ret ?_ | refine w_false rfl ?_ | refine g_yes rfl ?_ | refine mv_c rfl ?_ | refine pick_t rfl rfl ?_ | refine pick_f rfl rfl ?_ | refine eql_f rfl rfl (by omega) ?_ | refine neq_f rfl rfl (by omega) ?_ | refine not_ rfl ?_ | refine sub_in rfl rfl (by omega) ?_ | refine ext_ rfl rfl ?_)
              exact fin_r rfl rfl
          · rw [if_neg hw] at c7
            have hv : ¬ wsum a - wsum b = s := fun h => hw (by rw [h]; exact hs)
            rw [show mD n s a b = false by simp [mD, hv]]
            repeat' (first | refine call1 rfl c1 ?_ | refine call1 rfl c2 ?_ | refine call2 rfl rfl c3 ?_ | refine call1 rfl c4 ?_ | refine call1 rfl c5 ?_ | refine call2 rfl rfl c6 ?_ | refine call1 rfl c7 ?_ | refine w_seq ?_ | refine w_ops ?_ | refine st_nil ?_ | refine th_n ?_ | refine w_skip ?_ | refine w_ret ?_ | refine w_false rfl ?_ | refine g_yes rfl ?_ | refine g_no rfl ?_ | refine mv_c rfl ?_ | refine pick_f rfl rfl ?_ | refine neq_f rfl rfl (by omega) ?_ | refine not_ rfl ?_ | refine sub_in rfl rfl (by omega) ?_ | refine ext_ rfl rfl ?_)
            exact fin_r rfl rfl
        · rw [show mD n s a b = false by simp [mD, hn]]
          repeat' (first | refine call1 rfl c1 ?_ | refine call1 rfl c2 ?_ | refine call2 rfl rfl c3 ?_ | refine call1 rfl c4 ?_ | refine call1 rfl c5 ?_ | refine w_seq ?_ | refine w_ops ?_ | refine st_nil ?_ | refine th_n ?_ | refine th_r ?_ | refine w_ret ?_ | refine w_true rfl ?_ | refine g_yes rfl ?_ | refine mv_c rfl ?_ | refine pick_f rfl rfl ?_ | refine neq_t rfl rfl (by omega) ?_ | refine not_ rfl ?_ | refine sub_in rfl rfl (by omega) ?_)
          exact fin_r rfl rfl
end Go.Proofs.Ytcmejdkjfekoeaa
namespace Go.Proofs.Ytcmejdkjfekoeaa
open Go.Pl Go.Bag
set_option maxHeartbeats 16000000
set_option maxRecDepth 100000
theorem C_dGood (m : Int) (d : Delta) (hd : inD 1000000 d) : PCallG Try.prog 65 [.c (.int .i64 m), .c (encDelta d)] (.c (.bool (goodD m d))) [] := by
  obtain ⟨n, s0, s1, i0, i1, o0, o1⟩ := d
  obtain ⟨hn, hs0, hs1, ⟨ri0, li0⟩, ⟨ri1, li1⟩, ⟨ro0, lo0⟩, ⟨ro1, lo1⟩⟩ := hd
  simp only at hn hs0 hs1 ri0 li0 ri1 li1 ro0 lo0 ro1 lo1
  show PCallG _ 65 [.c (.int .i64 m), .c (.agg [.int .i64 n, .int .i64 s0, .int .i64 s1, encL i0, encL i1, encL o0, encL o1])] _ _
  refine pcallF Try.func65 c65 rfl ?_
  have c1 := C_measure n s0 i0 o0 (by omega) (by omega) ri0 ro0 hs0
  have c2 := C_measure n s1 i1 o1 (by omega) (by omega) ri1 ro1 hs1
  have hno : ∀ {b : Bool}, (goodD m ⟨n, s0, s1, i0, i1, o0, o1⟩ = true → b = true) → b = false → goodD m ⟨n, s0, s1, i0, i1, o0, o1⟩ = false := fun h hb => by
    cases hg : goodD m ⟨n, s0, s1, i0, i1, o0, o1⟩ with
    | false => rfl
    | true => rw [h hg] at hb; cases hb
  unfold p65 r65_0 r65_1 r65_2 r65_3 r65_11
  by_cases hm : 1 ≤ m ∧ m ≤ 2
  · by_cases hnn : -1099511627776 ≤ n ∧ n ≤ 1099511627776
    · cases h1 : mD n s0 i0 o0 with
      | false =>
        rw [h1] at c1
        rw [hno (fun h => (goodD_iff.mp h).2.2.1) h1]
        repeat' (first | refine w_seq ?_ | refine w_ops ?_ | refine st_nil ?_ | refine th_n ?_ | refine w_block ?_ | refine w_skip ?_ | refine w_false rfl ?_ | refine g_yes rfl ?_ | refine mv_c rfl ?_ | refine pick_f rfl rfl ?_ | refine lss_f rfl rfl (by omega) ?_ | refine gtr_f rfl rfl (by omega) ?_ | refine box_ rfl rfl rfl (fun u => ?_) | refine load_ptr rfl (by decide) rfl (Nat.le_of_ble_eq_true rfl) rfl ?_ | refine fad_ptr rfl rfl rfl ?_)
        refine w_loop ?_
        unfold b65_0 r65_4 r65_5 r65_6 r65_7 r65_8 r65_9 r65_10
        repeat' (first | refine call4 rfl rfl rfl rfl c1 ?_ | refine w_seq ?_ | refine w_ops ?_ | refine w_opsD0 rfl ?_ | refine st_nil ?_ | refine th_n ?_ | refine th_r ?_ | refine bk_r ?_ | refine w_block ?_ | refine w_skip ?_ | refine w_ret ?_ | refine w_true rfl ?_ | refine g_yes rfl ?_ | refine mv_c rfl ?_ | refine pick_t rfl rfl ?_ | refine lss_t rfl rfl (by omega) ?_ | refine not_ rfl ?_ | refine load_ptr rfl (by decide) rfl (Nat.le_of_ble_eq_true rfl) rfl ?_ | refine fad_ptr rfl rfl rfl ?_ | refine iaA_ptr rfl rfl rfl (by omega) rfl ?_)
        exact fin_r rfl rfl
      | true =>
        rw [h1] at c1
        repeat' (first | refine w_seq ?_ | refine w_ops ?_ | refine st_nil ?_ | refine th_n ?_ | refine w_block ?_ | refine w_skip ?_ | refine w_false rfl ?_ | refine g_yes rfl ?_ | refine mv_c rfl ?_ | refine pick_f rfl rfl ?_ | refine lss_f rfl rfl (by omega) ?_ | refine gtr_f rfl rfl (by omega) ?_ | refine box_ rfl rfl rfl (fun u => ?_) | refine load_ptr rfl (by decide) rfl (Nat.le_of_ble_eq_true rfl) rfl ?_ | refine fad_ptr rfl rfl rfl ?_)
        refine w_loop ?_
        unfold b65_0 r65_4 r65_5 r65_6 r65_7 r65_8 r65_9 r65_10
        repeat' (first | refine call4 rfl rfl rfl rfl c1 ?_ | refine w_seq ?_ | refine w_ops ?_ | refine w_opsD0 rfl ?_ | refine st_nil ?_ | refine th_n ?_ | refine bk_n ?_ | refine w_block ?_ | refine w_skip ?_ | refine w_true rfl ?_ | refine w_false rfl ?_ | refine g_yes rfl ?_ | refine g_no rfl ?_ | refine g_un rfl ?_ | refine mv_c rfl ?_ | refine pick_t rfl rfl ?_ | refine pick_f rfl rfl ?_ | refine lss_t rfl rfl (by omega) ?_ | refine geq_f rfl rfl (by omega) ?_ | refine not_ rfl ?_ | refine add_in rfl rfl (by omega) ?_ | refine load_ptr rfl (by decide) rfl (Nat.le_of_ble_eq_true rfl) rfl ?_ | refine fad_ptr rfl rfl rfl ?_ | refine iaA_ptr rfl rfl rfl (by omega) rfl ?_)
        refine w_loop ?_
        by_cases hm2 : m = 2
        · cases h2 : mD n s1 i1 o1 with
          | false =>
            rw [h2] at c2
            rw [hno (fun h => by have := (goodD_iff.mp h).2.2.2; rw [if_pos hm2] at this; exact this) h2]
            repeat' (first | refine call4 rfl rfl rfl rfl c2 ?_ | refine w_seq ?_ | refine w_ops ?_ | refine w_opsD0 rfl ?_ | refine st_nil ?_ | refine th_n ?_ | refine th_r ?_ | refine bk_r ?_ | refine w_block ?_ | refine w_skip ?_ | refine w_ret ?_ | refine w_true rfl ?_ | refine g_yes rfl ?_ | refine mv_c rfl ?_ | refine pick_t rfl rfl ?_ | refine lss_t rfl rfl (by omega) ?_ | refine not_ rfl ?_ | refine load_ptr rfl (by decide) rfl (Nat.le_of_ble_eq_true rfl) rfl ?_ | refine fad_ptr rfl rfl rfl ?_ | refine iaA_ptr rfl rfl rfl (by omega) rfl ?_)
            exact fin_r rfl rfl
          | true =>
            rw [h2] at c2
            rw [goodD_iff.mpr ⟨hm, hnn, h1, by rw [if_pos hm2]; exact h2⟩]
            repeat' (first | refine call4 rfl rfl rfl rfl c2 ?_ | refine w_seq ?_ | refine w_ops ?_ | refine w_opsD0 rfl ?_ | refine st_nil ?_ | refine th_n ?_ | refine bk_n ?_ | refine w_block ?_ | refine w_skip ?_ | refine w_true rfl ?_ | refine w_false rfl ?_ | refine g_yes rfl ?_ | refine g_no rfl ?_ | refine g_un rfl ?_ | refine mv_c rfl ?_ | refine pick_t rfl rfl ?_ | refine pick_f rfl rfl ?_ | refine lss_t rfl rfl (by omega) ?_ | refine geq_f rfl rfl (by omega) ?_ | refine not_ rfl ?_ | refine add_in rfl rfl (by omega) ?_ | refine load_ptr rfl (by decide) rfl (Nat.le_of_ble_eq_true rfl) rfl ?_ | refine fad_ptr rfl rfl rfl ?_ | refine iaA_ptr rfl rfl rfl (by omega) rfl ?_)
            refine w_loop ?_
            repeat' (first | refine w_seq ?_ | refine w_ops ?_ | refine st_nil ?_ | refine th_n ?_ | refine th_x ?_ | refine bk_x ?_ | refine w_exit ?_ | refine w_ret ?_ | refine w_false rfl ?_ | refine mv_c rfl ?_ | refine lss_f rfl rfl (by omega) ?_)
            exact fin_r rfl rfl
        · have hz : goodD m ⟨n, s0, s1, i0, i1, o0, o1⟩ = true → s1 = 0 ∧ i1 = [] ∧ o1 = [] := fun h => by have := (goodD_iff.mp h).2.2.2; rw [if_neg hm2] at this; exact this
          by_cases z1 : s1 = 0
          · cases i1 with
            | nil =>
              cases o1 with
              | nil =>
                rw [goodD_iff.mpr ⟨hm, hnn, h1, by rw [if_neg hm2]; exact ⟨z1, rfl, rfl⟩⟩]
                repeat' (first | refine len_sl (es := []) rfl rfl ?_ | refine w_seq ?_ | refine w_ops ?_ | refine w_opsD0 rfl ?_ | refine st_nil ?_ | refine th_n ?_ | refine bk_n ?_ | refine w_block ?_ | refine w_skip ?_ | refine w_true rfl ?_ | refine w_false rfl ?_ | refine g_yes rfl ?_ | refine g_no rfl ?_ | refine mv_c rfl ?_ | refine pick_t rfl rfl ?_ | refine pick_f rfl rfl ?_ | refine lss_t rfl rfl (by omega) ?_ | refine lss_f rfl rfl (by omega) ?_ | refine gtr_ rfl rfl ?_ | refine geq_t rfl rfl (by omega) ?_ | refine neq_f rfl rfl (by omega) ?_ | refine add_in rfl rfl (by omega) ?_ | refine load_ptr rfl (by decide) rfl (Nat.le_of_ble_eq_true rfl) rfl ?_ | refine fad_ptr rfl rfl rfl ?_ | refine iaA_ptr rfl rfl rfl (by omega) rfl ?_)
                refine w_loop ?_
                repeat' (first | refine w_seq ?_ | refine w_ops ?_ | refine st_nil ?_ | refine th_n ?_ | refine th_x ?_ | refine bk_x ?_ | refine w_exit ?_ | refine w_ret ?_ | refine w_false rfl ?_ | refine mv_c rfl ?_ | refine lss_f rfl rfl (by omega) ?_)
                exact fin_r rfl rfl
              | cons x o1 =>
                rw [hno (b := false) (fun h => by have := (hz h).2.2; cases this) rfl]
                have hp : 0 < (x :: o1).length := by simp
                repeat' (first | refine len_sl (es := []) rfl rfl ?_ | refine len_sl rfl (List.length_map _) ?_ | refine w_seq ?_ | refine w_ops ?_ | refine w_opsD0 rfl ?_ | refine st_nil ?_ | refine th_n ?_ | refine th_r ?_ | refine bk_r ?_ | refine w_block ?_ | refine w_skip ?_ | refine w_ret ?_ | refine w_true rfl ?_ | refine w_false rfl ?_ | refine g_yes rfl ?_ | refine g_no rfl ?_ | refine mv_c rfl ?_ | refine pick_t rfl rfl ?_ | refine pick_f rfl rfl ?_ | refine lss_t rfl rfl (by omega) ?_ | refine lss_f rfl rfl (by omega) ?_ | refine gtr_t rfl rfl (by omega) ?_ | refine gtr_ rfl rfl ?_ | refine geq_t rfl rfl (by omega) ?_ | refine neq_f rfl rfl (by omega) ?_ | refine load_ptr rfl (by decide) rfl (Nat.le_of_ble_eq_true rfl) rfl ?_ | refine fad_ptr rfl rfl rfl ?_ | refine iaA_ptr rfl rfl rfl (by omega) rfl ?_)
                exact fin_r rfl rfl
            | cons x i1 =>
              rw [hno (b := false) (fun h => by have := (hz h).2.1; cases this) rfl]
              have hp : 0 < (x :: i1).length := by simp
              repeat' (first | refine len_sl rfl (List.length_map _) ?_ | refine w_seq ?_ | refine w_ops ?_ | refine w_opsD0 rfl ?_ | refine st_nil ?_ | refine th_n ?_ | refine th_r ?_ | refine bk_r ?_ | refine w_block ?_ | refine w_skip ?_ | refine w_ret ?_ | refine w_true rfl ?_ | refine w_false rfl ?_ | refine g_yes rfl ?_ | refine g_no rfl ?_ | refine mv_c rfl ?_ | refine pick_t rfl rfl ?_ | refine pick_f rfl rfl ?_ | refine lss_t rfl rfl (by omega) ?_ | refine lss_f rfl rfl (by omega) ?_ | refine gtr_t rfl rfl (by omega) ?_ | refine geq_t rfl rfl (by omega) ?_ | refine neq_f rfl rfl (by omega) ?_ | refine load_ptr rfl (by decide) rfl (Nat.le_of_ble_eq_true rfl) rfl ?_ | refine fad_ptr rfl rfl rfl ?_ | refine iaA_ptr rfl rfl rfl (by omega) rfl ?_)
              exact fin_r rfl rfl
          · rw [hno (b := false) (fun h => absurd (hz h).1 z1) rfl]
            repeat' (first | refine w_seq ?_ | refine w_ops ?_ | refine w_opsD0 rfl ?_ | refine st_nil ?_ | refine th_n ?_ | refine th_r ?_ | refine bk_r ?_ | refine w_block ?_ | refine w_skip ?_ | refine w_ret ?_ | refine w_true rfl ?_ | refine w_false rfl ?_ | refine g_yes rfl ?_ | refine g_no rfl ?_ | refine mv_c rfl ?_ | refine pick_t rfl rfl ?_ | refine pick_f rfl rfl ?_ | refine lss_t rfl rfl (by omega) ?_ | refine lss_f rfl rfl (by omega) ?_ | refine geq_t rfl rfl (by omega) ?_ | refine neq_t rfl rfl (by omega) ?_ | refine load_ptr rfl (by decide) rfl (Nat.le_of_ble_eq_true rfl) rfl ?_ | refine fad_ptr rfl rfl rfl ?_ | refine iaA_ptr rfl rfl rfl (by omega) rfl ?_)
            exact fin_r rfl rfl
    · rw [hno (b := false) (fun h => absurd (goodD_iff.mp h).2.1 hnn) rfl]
      by_cases h1 : n < -1099511627776
      · repeat' (first | refine w_seq ?_ | refine w_ops ?_ | refine st_nil ?_ | refine th_n ?_ | refine th_r ?_ | refine w_ret ?_ | refine w_true rfl ?_ | refine g_yes rfl ?_ | refine g_no rfl ?_ | refine mv_c rfl ?_ | refine pick_t rfl rfl ?_ | refine pick_f rfl rfl ?_ | refine lss_t rfl rfl (by omega) ?_ | refine lss_f rfl rfl (by omega) ?_ | refine gtr_f rfl rfl (by omega) ?_ | refine box_ rfl rfl rfl (fun u => ?_) | refine load_ptr rfl (by decide) rfl (Nat.le_of_ble_eq_true rfl) rfl ?_ | refine fad_ptr rfl rfl rfl ?_)
        exact fin_r rfl rfl
      · repeat' (first | refine w_seq ?_ | refine w_ops ?_ | refine st_nil ?_ | refine th_n ?_ | refine th_r ?_ | refine w_ret ?_ | refine w_true rfl ?_ | refine g_yes rfl ?_ | refine mv_c rfl ?_ | refine pick_f rfl rfl ?_ | refine lss_f rfl rfl (by omega) ?_ | refine gtr_t rfl rfl (by omega) ?_ | refine gtr_f rfl rfl (by omega) ?_ | refine box_ rfl rfl rfl (fun u => ?_) | refine load_ptr rfl (by decide) rfl (Nat.le_of_ble_eq_true rfl) rfl ?_ | refine fad_ptr rfl rfl rfl ?_)
        exact fin_r rfl rfl
  · rw [hno (b := false) (fun h => absurd (goodD_iff.mp h).1 hm) rfl]
    by_cases h1 : m < 1
    · repeat' (first | refine w_seq ?_ | refine w_ops ?_ | refine st_nil ?_ | refine th_n ?_ | refine th_r ?_ | refine w_ret ?_ | refine w_true rfl ?_ | refine g_no rfl ?_ | refine mv_c rfl ?_ | refine pick_t rfl rfl ?_ | refine lss_t rfl rfl (by omega) ?_ | refine box_ rfl rfl rfl (fun u => ?_))
      exact fin_r rfl rfl
    · repeat' (first | refine w_seq ?_ | refine w_ops ?_ | refine st_nil ?_ | refine th_n ?_ | refine th_r ?_ | refine w_ret ?_ | refine w_true rfl ?_ | refine g_yes rfl ?_ | refine g_no rfl ?_ | refine mv_c rfl ?_ | refine pick_t rfl rfl ?_ | refine pick_f rfl rfl ?_ | refine lss_f rfl rfl (by omega) ?_ | refine gtr_t rfl rfl (by omega) ?_ | refine box_ rfl rfl rfl (fun u => ?_))
      exact fin_r rfl rfl
def lenD (d : Delta) : Prop := d.i0.length ≤ 1000000 ∧ d.i1.length ≤ 1000000 ∧ d.o0.length ≤ 1000000 ∧ d.o1.length ≤ 1000000
theorem C_dSame (a b : Delta) (ha : lenD a) (hb : lenD b) : PCallG Try.prog 71 [.c (encDelta a), .c (encDelta b)] (.c (.bool (decide (a = b)))) [] := by
  obtain ⟨n, s0, s1, i0, i1, o0, o1⟩ := a
  obtain ⟨k, t0, t1, j0, j1, q0, q1⟩ := b
  obtain ⟨a1, a2, a3, a4⟩ := ha
  obtain ⟨b1, b2, b3, b4⟩ := hb
  simp only at a1 a2 a3 a4 b1 b2 b3 b4
  show PCallG _ 71 [.c (.agg [.int .i64 n, .int .i64 s0, .int .i64 s1, encL i0, encL i1, encL o0, encL o1]), .c (.agg [.int .i64 k, .int .i64 t0, .int .i64 t1, encL j0, encL j1, encL q0, encL q1])] _ _
  refine pcallF Try.func71 c71 rfl ?_
  have c1 := same_B i0 j0 a1 b1
  have c2 := same_B o0 q0 a3 b3
  have c3 := same_B i1 j1 a2 b2
  have c4 := same_B o1 q1 a4 b4
  have e := eq2_of s0 s1 t0 t1
  unfold p71 r71_0 r71_1 r71_2 r71_3 r71_9
  by_cases h1 : n = k
  · by_cases h2 : s0 = t0 ∧ s1 = t1
    · rw [decide_eq_true h2] at e
      repeat' (first | refine eqs_f rfl rfl e ?_ | refine w_seq ?_ | refine w_ops ?_ | refine st_nil ?_ | refine th_n ?_ | refine w_block ?_ | refine w_skip ?_ | refine w_false rfl ?_ | refine g_yes rfl ?_ | refine mv_c rfl ?_ | refine pick_f rfl rfl ?_ | refine neq_f rfl rfl (by omega) ?_ | refine box_ rfl rfl rfl (fun u => ?_) | refine load_ptr rfl (by decide) rfl (Nat.le_of_ble_eq_true rfl) rfl ?_ | refine fad_ptr rfl rfl rfl ?_)
      refine w_loop ?_
      unfold b71_0 r71_4 r71_5 r71_6 r71_7 r71_8
      by_cases h3 : i0 = j0
      · rw [decide_eq_true h3] at c1
        by_cases h4 : o0 = q0
        · rw [decide_eq_true h4] at c2
          repeat' (first | refine call2 rfl rfl c1 ?_ | refine call2 rfl rfl c2 ?_ | refine w_seq ?_ | refine w_ops ?_ | refine w_opsD0 rfl ?_ | refine st_nil ?_ | refine th_n ?_ | refine bk_n ?_ | refine w_block ?_ | refine w_skip ?_ | refine w_true rfl ?_ | refine w_false rfl ?_ | refine g_yes rfl ?_ | refine mv_c rfl ?_ | refine pick_f rfl rfl ?_ | refine lss_t rfl rfl (by omega) ?_ | refine not_ rfl ?_ | refine add_in rfl rfl (by omega) ?_ | refine load_ptr rfl (by decide) rfl (Nat.le_of_ble_eq_true rfl) rfl ?_ | refine fad_ptr rfl rfl rfl ?_ | refine iaA_ptr rfl rfl rfl (by omega) rfl ?_)
          refine w_loop ?_
          by_cases h5 : i1 = j1
          · rw [decide_eq_true h5] at c3
            by_cases h6 : o1 = q1
            · rw [decide_eq_true h6] at c4
              rw [decide_eq_true (by rw [h1, h2.1, h2.2, h3, h4, h5, h6])]
              repeat' (first | refine call2 rfl rfl c3 ?_ | refine call2 rfl rfl c4 ?_ | refine w_seq ?_ | refine w_ops ?_ | refine w_opsD0 rfl ?_ | refine st_nil ?_ | refine th_n ?_ | refine bk_n ?_ | refine w_block ?_ | refine w_skip ?_ | refine w_true rfl ?_ | refine w_false rfl ?_ | refine g_yes rfl ?_ | refine mv_c rfl ?_ | refine pick_f rfl rfl ?_ | refine lss_t rfl rfl (by omega) ?_ | refine not_ rfl ?_ | refine add_in rfl rfl (by omega) ?_ | refine load_ptr rfl (by decide) rfl (Nat.le_of_ble_eq_true rfl) rfl ?_ | refine fad_ptr rfl rfl rfl ?_ | refine iaA_ptr rfl rfl rfl (by omega) rfl ?_)
              refine w_loop ?_
              repeat' (first | refine w_seq ?_ | refine w_ops ?_ | refine st_nil ?_ | refine th_n ?_ | refine th_x ?_ | refine bk_x ?_ | refine w_exit ?_ | refine w_ret ?_ | refine w_false rfl ?_ | refine mv_c rfl ?_ | refine lss_f rfl rfl (by omega) ?_)
              exact fin_r rfl rfl
            · rw [decide_eq_false h6] at c4
              rw [decide_eq_false (by intro h; exact h6 (congrArg Delta.o1 h))]
              repeat' (first | refine call2 rfl rfl c3 ?_ | refine call2 rfl rfl c4 ?_ | refine w_seq ?_ | refine w_ops ?_ | refine w_opsD0 rfl ?_ | refine st_nil ?_ | refine th_n ?_ | refine th_r ?_ | refine bk_r ?_ | refine w_block ?_ | refine w_skip ?_ | refine w_ret ?_ | refine w_true rfl ?_ | refine g_yes rfl ?_ | refine mv_c rfl ?_ | refine pick_f rfl rfl ?_ | refine lss_t rfl rfl (by omega) ?_ | refine not_ rfl ?_ | refine load_ptr rfl (by decide) rfl (Nat.le_of_ble_eq_true rfl) rfl ?_ | refine fad_ptr rfl rfl rfl ?_ | refine iaA_ptr rfl rfl rfl (by omega) rfl ?_)
              exact fin_r rfl rfl
          · rw [decide_eq_false h5] at c3
            rw [decide_eq_false (by intro h; exact h5 (congrArg Delta.i1 h))]
            repeat' (first | refine call2 rfl rfl c3 ?_ | refine w_seq ?_ | refine w_ops ?_ | refine w_opsD0 rfl ?_ | refine st_nil ?_ | refine th_n ?_ | refine th_r ?_ | refine bk_r ?_ | refine w_block ?_ | refine w_skip ?_ | refine w_ret ?_ | refine w_true rfl ?_ | refine g_no rfl ?_ | refine mv_c rfl ?_ | refine pick_t rfl rfl ?_ | refine lss_t rfl rfl (by omega) ?_ | refine not_ rfl ?_ | refine load_ptr rfl (by decide) rfl (Nat.le_of_ble_eq_true rfl) rfl ?_ | refine fad_ptr rfl rfl rfl ?_ | refine iaA_ptr rfl rfl rfl (by omega) rfl ?_)
            exact fin_r rfl rfl
        · rw [decide_eq_false h4] at c2
          rw [decide_eq_false (by intro h; exact h4 (congrArg Delta.o0 h))]
          repeat' (first | refine call2 rfl rfl c1 ?_ | refine call2 rfl rfl c2 ?_ | refine w_seq ?_ | refine w_ops ?_ | refine w_opsD0 rfl ?_ | refine st_nil ?_ | refine th_n ?_ | refine th_r ?_ | refine bk_r ?_ | refine w_block ?_ | refine w_skip ?_ | refine w_ret ?_ | refine w_true rfl ?_ | refine g_yes rfl ?_ | refine mv_c rfl ?_ | refine pick_f rfl rfl ?_ | refine lss_t rfl rfl (by omega) ?_ | refine not_ rfl ?_ | refine load_ptr rfl (by decide) rfl (Nat.le_of_ble_eq_true rfl) rfl ?_ | refine fad_ptr rfl rfl rfl ?_ | refine iaA_ptr rfl rfl rfl (by omega) rfl ?_)
          exact fin_r rfl rfl
      · rw [decide_eq_false h3] at c1
        rw [decide_eq_false (by intro h; exact h3 (congrArg Delta.i0 h))]
        repeat' (first | refine call2 rfl rfl c1 ?_ | refine w_seq ?_ | refine w_ops ?_ | refine w_opsD0 rfl ?_ | refine st_nil ?_ | refine th_n ?_ | refine th_r ?_ | refine bk_r ?_ | refine w_block ?_ | refine w_skip ?_ | refine w_ret ?_ | refine w_true rfl ?_ | refine g_no rfl ?_ | refine mv_c rfl ?_ | refine pick_t rfl rfl ?_ | refine lss_t rfl rfl (by omega) ?_ | refine not_ rfl ?_ | refine load_ptr rfl (by decide) rfl (Nat.le_of_ble_eq_true rfl) rfl ?_ | refine fad_ptr rfl rfl rfl ?_ | refine iaA_ptr rfl rfl rfl (by omega) rfl ?_)
        exact fin_r rfl rfl
    · rw [decide_eq_false h2] at e
      rw [decide_eq_false (by intro h; exact h2 ⟨congrArg Delta.s0 h, congrArg Delta.s1 h⟩)]
      repeat' (first | refine eqs_f rfl rfl e ?_ | refine w_seq ?_ | refine w_ops ?_ | refine st_nil ?_ | refine th_n ?_ | refine th_r ?_ | refine w_ret ?_ | refine w_true rfl ?_ | refine g_yes rfl ?_ | refine mv_c rfl ?_ | refine pick_f rfl rfl ?_ | refine neq_f rfl rfl (by omega) ?_ | refine box_ rfl rfl rfl (fun u => ?_) | refine load_ptr rfl (by decide) rfl (Nat.le_of_ble_eq_true rfl) rfl ?_ | refine fad_ptr rfl rfl rfl ?_)
      exact fin_r rfl rfl
  · rw [decide_eq_false (by intro h; exact h1 (congrArg Delta.n h))]
    repeat' (first | refine w_seq ?_ | refine w_ops ?_ | refine st_nil ?_ | refine th_n ?_ | refine th_r ?_ | refine w_ret ?_ | refine w_true rfl ?_ | refine g_no rfl ?_ | refine mv_c rfl ?_ | refine pick_t rfl rfl ?_ | refine neq_t rfl rfl (by omega) ?_ | refine box_ rfl rfl rfl (fun u => ?_) | refine load_ptr rfl (by decide) rfl (Nat.le_of_ble_eq_true rfl) rfl ?_ | refine fad_ptr rfl rfl rfl ?_)
    exact fin_r rfl rfl
theorem inD_len {d : Delta} {k : Nat} (h : inD k d) (hk : k ≤ 1000000) : lenD d := by
  obtain ⟨_, _, _, ⟨_, h1⟩, ⟨_, h2⟩, ⟨_, h3⟩, ⟨_, h4⟩⟩ := h
  exact ⟨by omega, by omega, by omega, by omega⟩
theorem lenD_zero : lenD zeroD := ⟨by simp [zeroD], by simp [zeroD], by simp [zeroD], by simp [zeroD]⟩
theorem C_dIdle (m : Int) (d : Delta) (hd : inD 1000000 d) : PCallG Try.prog 67 [.c (.int .i64 m), .c (encDelta d)] (.c (.bool (idleD m d))) [] := by
  have c1 := C_dGood m d hd
  have c2 := C_dSame d zeroD (inD_len hd (by omega)) lenD_zero
  obtain ⟨n, s0, s1, i0, i1, o0, o1⟩ := d
  refine pcallF Try.func67 c67 rfl ?_
  unfold p67 r67_0 r67_1
  unfold idleD
  cases hg : goodD m ⟨n, s0, s1, i0, i1, o0, o1⟩ with
  | false =>
    rw [hg] at c1
    repeat' (first | refine call2 rfl rfl c1 ?_ | refine w_seq ?_ | refine w_ops ?_ | refine st_nil ?_ | refine th_n ?_ | refine w_ret ?_ | refine g_no rfl ?_ | refine mv_c rfl ?_ | refine pick_f rfl rfl ?_ | refine box_ rfl rfl rfl (fun u => ?_) | refine load_ptr rfl (by decide) rfl (Nat.le_of_ble_eq_true rfl) rfl ?_)
    exact fin_r rfl rfl
  | true =>
    rw [hg] at c1
    repeat' (first | refine call2 rfl rfl c1 ?_ | refine call2 rfl rfl c2 ?_ | refine w_seq ?_ | refine w_ops ?_ | refine st_nil ?_ | refine th_n ?_ | refine w_ret ?_ | refine g_yes rfl ?_ | refine mv_c rfl ?_ | refine pick_t rfl rfl ?_ | refine box_ rfl rfl rfl (fun u => ?_) | refine build_ rfl rfl ?_ | refine load_ptr rfl (by decide) rfl (Nat.le_of_ble_eq_true rfl) rfl ?_)
    exact fin_r rfl rfl
theorem mm_minv {C : CallP} {l : List POp} {s : PS} {K : PS → Prop} {d : Nat} {x y : PO} {k : IntKind} {a b v : Int} (hx : s.ev x = .c (.int k a)) (hy : s.ev y = .c (.int k b)) (hv : (if b < a then b else a) = v) (h : wL C l (s.put d (.c (.int k v))) K) :
    wL C (⟨some d, .mm false x [y], none⟩ :: l) s K := mm_min hx hy (by rw [hv]; exact h)
theorem com_loop {K : Ex → PS → Prop} (b : List Run) (hb : b.length < 4611686018427387904) (gb : good b = true) (l : List Run) (hlen : l.length < 400000000) : ∀ (rest : List Run) (i : Nat) (out : List Run) (s : PS), l.drop i = rest → i ≤ l.length → out.length ≤ i →
    s.t 8 = .c (encL l) → s.t 9 = .c (.int .i64 l.length) → s.t 10 = .c (.int .i64 i) → s.t 1 = .c (encL b) → s.t 5 = .osl 5 (s.bx 5).ver 0 (encE out).length → s.bx 5 = ⟨(s.bx 5).ver, .sl 2 (encE out)⟩ →
    (∀ s' v, s'.t 5 = .osl 5 v 0 (encE (out ++ com b rest)).length → s'.bx 5 = ⟨v, .sl 2 (encE (out ++ com b rest))⟩ → K (.x 0) s') → wP (PCallG Try.prog) (.loop b132_0) s K := by
  intro rest
  induction rest with
  | nil =>
    intro i out s hd hi ho t8 t9 t10 t1 t5 b5 hx
    refine w_loop ?_
    have := get_end hd hi
    subst this
    generalize (s.bx 5).ver = v5 at t5 b5
    rw [← put_same t8, ← put_same t9, ← put_same t10, ← put_same t5, ← box_same b5]
    unfold b132_0 r132_3 r132_4 r132_5 r132_6 r132_7 r132_8
    repeat' (first | refine w_seq ?_ | refine w_ops ?_ | refine st_nil ?_ | refine th_n ?_ | refine th_x ?_ | refine w_exit ?_ | refine w_false rfl ?_ | refine lss_f rfl rfl (by omega) ?_)
    exact hx _ v5 (by simp only [com, List.append_nil]; rfl) (by simp only [com, List.append_nil]; rfl)
  | cons r rest ih =>
    intro i out s hd hi ho t8 t9 t10 t1 t5 b5 hx
    refine w_loop ?_
    have he := get_enc hd
    have hl := get_len hd
    have hn := get_next hd
    have hC := C_Has b r.1 hb
    rw [if_pos gb] at hC
    have hmin : (if has b r.1 < r.2 then has b r.1 else r.2) = min r.2 (has b r.1) := by split <;> omega
    have hk : (encE out).length = out.length := List.length_map _
    have z1 : ∀ q : List CV, (encE out).length + [q].length ≤ maxGrow := fun q => by rw [hk]; simp [maxGrow]; omega
    have z2 : ∀ q : Run, encE out ++ [encR q] = encE (out ++ [q]) := fun q => by simp [encE]
    generalize (s.bx 5).ver = v5 at t5 b5
    rw [← put_same t8, ← put_same t9, ← put_same t10, ← put_same t1, ← put_same t5, ← box_same b5]
    unfold b132_0 r132_3 r132_4 r132_5 r132_6 r132_7 r132_8
    by_cases h : 0 < min r.2 (has b r.1)
    · have e : out ++ com b (r :: rest) = (out ++ [(r.1, min r.2 (has b r.1))]) ++ com b rest := by simp only [com, some_, if_pos h, List.append_assoc]
      rw [e] at hx
      repeat' (first | refine call2 rfl rfl hC ?_ | refine mm_minv rfl rfl hmin ?_ | refine app_own rfl rfl rfl rfl (z1 _) (by intro e he; cases List.mem_singleton.mp he; rfl) (z2 (r.1, min r.2 (has b r.1))) rfl (fun _ _ => ?_) | refine w_seq ?_ | refine w_ops ?_ | refine w_opsD0 rfl ?_ | refine st_nil ?_ | refine th_n ?_ | refine bk_n ?_ | refine w_block ?_ | refine w_skip ?_ | refine w_true rfl ?_ | refine mv_c rfl ?_ | refine mv_osl rfl ?_ | refine lss_t rfl rfl (by omega) ?_ | refine gtr_t rfl rfl (by omega) ?_ | refine add_in rfl rfl (by omega) ?_ | refine alloc_ (fun u => ?_) | refine bsl_ rfl rfl ?_ | refine load_rp rfl (Nat.le_of_ble_eq_true rfl) rfl ?_ | refine load_ptr rfl (by decide) rfl (Nat.le_of_ble_eq_true rfl) rfl ?_ | refine store_ptr rfl rfl (by decide) rfl rfl (Nat.le_of_ble_eq_true rfl) rfl ?_ | refine fad_ptr rfl rfl rfl ?_ | refine iaS_c rfl rfl (by omega) (by assumption) rfl ?_ | refine w_rn rfl (by decide) rfl rfl (fun _ _ => ?_))
      exact ih (i + 1) (out ++ [(r.1, min r.2 (has b r.1))]) _ hn (by omega) (by simp; omega) (by rfl) (by rfl) (by rfl) (by rfl) (by rfl) (by rfl) hx
    · have e : out ++ com b (r :: rest) = out ++ com b rest := by simp only [com, some_, if_neg h, List.nil_append]
      rw [e] at hx
      repeat' (first | refine call2 rfl rfl hC ?_ | refine mm_minv rfl rfl hmin ?_ | refine w_seq ?_ | refine w_ops ?_ | refine w_opsD0 rfl ?_ | refine st_nil ?_ | refine th_n ?_ | refine bk_n ?_ | refine w_block ?_ | refine w_skip ?_ | refine w_true rfl ?_ | refine w_false rfl ?_ | refine mv_c rfl ?_ | refine lss_t rfl rfl (by omega) ?_ | refine gtr_f rfl rfl (by omega) ?_ | refine add_in rfl rfl (by omega) ?_ | refine alloc_ (fun u => ?_) | refine load_rp rfl (Nat.le_of_ble_eq_true rfl) rfl ?_ | refine load_ptr rfl (by decide) rfl (Nat.le_of_ble_eq_true rfl) rfl ?_ | refine store_ptr rfl rfl (by decide) rfl rfl (Nat.le_of_ble_eq_true rfl) rfl ?_ | refine fad_ptr rfl rfl rfl ?_ | refine iaS_c rfl rfl (by omega) (by assumption) rfl ?_ | refine w_rn_same rfl ?_)
      exact ih (i + 1) out _ hn (by omega) (by omega) (by rfl) (by rfl) (by rfl) (by rfl) (by rfl) (by rfl) hx
theorem C_common (a b : List Run) (ha : a.length < 400000000) (hb : b.length < 4611686018427387904) (gb : good b = true) : PCallG Try.prog 132 [.c (encL a), .c (encL b)] (.c (encL (com b a))) [] := by
  refine pcallF Try.func132 c132 rfl ?_
  unfold p132 r132_0 r132_1 r132_2 r132_9
  repeat' (first | refine len_sl rfl (List.length_map _) ?_ | refine w_seq ?_ | refine w_ops ?_ | refine st_nil ?_ | refine th_n ?_ | refine w_block ?_ | refine mv_c rfl ?_ | refine own0_ (fun u => ?_))
  refine com_loop b hb gb a ha a 0 [] _ rfl (by omega) (by simp) (by rfl) (by rfl) (by rfl) (by rfl) (by rfl) (by rfl) ?_
  intro s' v t5 b5
  rw [← put_same t5, ← box_same b5]
  repeat' (first | refine w_seq ?_ | refine w_ops ?_ | refine st_nil ?_ | refine th_n ?_ | refine bk_x ?_ | refine w_ret ?_ | refine mv_osl rfl ?_)
  exact fin_r (rv_own rfl rfl rfl rv_nil) rfl
theorem C_part (a b : List Run) (ha : a.length < 4000000) (hb : b.length < 4000000) (ga : good a = true) (gb : good b = true) : PCallG Try.prog 106 [.c (encL a), .c (encL b)] (.c (.tup [encL (cut b a), encL (cut a b)])) [] := by
  refine pcallF Try.func106 c106 rfl ?_
  have hl := com_len b a
  have c1 := C_common a b (by omega) (by omega) gb
  have c2 := C_Minus a (com b a) (by omega) (by omega)
  have c3 := C_Minus b (com b a) (by omega) (by omega)
  rw [(minus_com ga gb).1] at c2
  rw [(minus_com ga gb).2] at c3
  unfold p106 r106_0 r106_1 r106_2 r106_3 r106_4
  repeat' (first | refine call2 rfl rfl c1 ?_ | refine call2 rfl rfl c2 ?_ | refine call2 rfl rfl c3 ?_ | refine w_seq ?_ | refine w_ops ?_ | refine st_nil ?_ | refine th_n ?_ | refine w_ret ?_ | refine mv_c rfl ?_ | refine ext_ rfl rfl ?_)
  exact fin_r rfl rfl
theorem C_own (a : List Run) (ha : a.length < 4000000) (ga : good a = true) : PCallG Try.prog 103 [.c (encL a)] (.c (encL a)) [] := by
  refine pcallF Try.func103 c103 rfl ?_
  have c1 := C_Join a [] (by omega) (by simp)
  rw [join_nil ga] at c1
  unfold p103 r103_0 r103_1 r103_2
  repeat' (first | refine call2 rfl rfl c1 ?_ | refine w_seq ?_ | refine w_ops ?_ | refine st_nil ?_ | refine th_n ?_ | refine w_ret ?_ | refine mv_c rfl ?_ | refine ext_ rfl rfl ?_)
  exact fin_r rfl rfl
end Go.Proofs.Ytcmejdkjfekoeaa

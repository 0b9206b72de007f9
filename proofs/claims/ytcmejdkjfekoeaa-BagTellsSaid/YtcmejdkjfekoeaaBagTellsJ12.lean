/- Part 12 of the proof of BagTells: lemmas. -/
import Derived.Test.YtcmejdkjfekoeaaBagTellsJ1
/-
  THE WALK OF A PLAIN CODE, more steps. My own work.
-/
namespace Go.Pl
set_option linter.unusedSimpArgs false
section
variable {C : CallP} {l : List POp} {s : PS} {K : PS → Prop} {d : Nat} {x y z : PO} {k : IntKind} {a b n m : Int}
theorem rem_nn {m : Int} (hx : s.ev x = .c (.int k a)) (hy : s.ev y = .c (.int k m)) (ha : 0 ≤ a) (hm : 0 < m) (h : wL C l (s.put d (.c (.int k (a % m)))) K) : wL C (⟨some d, .bin .rem x y, none⟩ :: l) s K :=
  bin_ hx hy (by simp only [binC]; rw [if_pos ⟨trivial, by omega⟩, Int.tmod_eq_emod_of_nonneg ha]) h
theorem rem_ {m : Int} (hx : s.ev x = .c (.int k a)) (hy : s.ev y = .c (.int k m)) (hm : m ≠ 0) (h : wL C l (s.put d (.c (.int k (a.tmod m)))) K) : wL C (⟨some d, .bin .rem x y, none⟩ :: l) s K :=
  bin_ hx hy (by simp only [binC]; rw [if_pos ⟨trivial, hm⟩]) h
end
end Go.Pl

/-
  A slice of the frame's own changes its box. My own work.
-/
import Derived.Test.YtcmejdkjfekoeaaPlOps9
namespace Go.Pl
open Go
set_option linter.unusedVariables false
section
variable {O A0 : Nat → Prop} {w0 w : World} {β : Bt} {s : PS} {a : Act} {P : Program}

theorem Sim.rn {tm : Nat → Value} (h : Sim O w0 A0 β s tm w) {i d e ver len sz : Nat} {es : List (List CV)} (hi : s.t i = .osl d ver 0 len) (hb : s.bx d = ⟨ver, .sl sz es⟩) (hde : d ≠ e) (hl : len = es.length) :
    Sim O w0 A0 (fun j => if j = e then β d else β j) (((s.box d ⟨ver, .dead⟩).box e ⟨(s.bx e).ver + 1, .sl sz es⟩).put i (.osl e ((s.bx e).ver + 1) 0 len)) tm w := by
  have hown : (s.bx d).st.owned = true := by rw [hb]; rfl
  have hbd : ((s.box d ⟨ver, .dead⟩).box e ⟨(s.bx e).ver + 1, .sl sz es⟩).bx d = ⟨ver, .dead⟩ := by simp [PS.box, hde]
  have hbe : ((s.box d ⟨ver, .dead⟩).box e ⟨(s.bx e).ver + 1, .sl sz es⟩).bx e = ⟨(s.bx e).ver + 1, .sl sz es⟩ := by simp [PS.box]
  have hbo : ∀ j, j ≠ d → j ≠ e → ((s.box d ⟨ver, .dead⟩).box e ⟨(s.bx e).ver + 1, .sl sz es⟩).bx j = s.bx j := fun j h1 h2 => by simp [PS.box, h1, h2]
  generalize hu : ((s.box d ⟨ver, .dead⟩).box e ⟨(s.bx e).ver + 1, .sl sz es⟩) = u at hbd hbe hbo ⊢
  have hut : ∀ j, u.t j = s.t j := fun j => by rw [← hu]; rfl
  have hless : ∀ b, Nn O (fun j => if j = e then β d else β j) u.bx b → Nn O β s.bx b := by
    rintro b (hn | ⟨j, base, ho, hj⟩)
    · exact .inl hn
    · by_cases ej : j = e
      · simp only [if_pos ej] at hj; exact .inr ⟨d, base, hown, hj⟩
      · simp only [if_neg ej] at hj
        by_cases ed : j = d
        · subst ed; rw [hbd] at ho; cases ho
        · rw [hbo j ed ej] at ho; exact .inr ⟨j, base, ho, hj⟩
  have hext : Ext w (Nn O β s.bx) w (Nn O (fun j => if j = e then β d else β j) u.bx) := .of_less hless
  have hcomp : ∀ j, Compat w w (β j) ((fun j => if j = e then β d else β j) j) (s.bx j) (u.bx j) := by
    intro j
    by_cases ej : j = e
    · subst ej; rw [hbe]; exact .inl (by simp)
    · by_cases ed : j = d
      · subst ed; rw [hbd, hb]; exact .inr ⟨rfl, .inl rfl⟩
      · rw [hbo j ed ej]; simp only [if_neg ej]; exact Compat.same fun q n _ _ hw => hw
  have hR := h.temps i
  rw [hi] at hR
  have hB := h.boxes d
  rw [hb] at hB
  have hH := hdr_of hR hb hl hB
  refine ⟨h.os, h.tape, h.output, h.size, h.keep, fun j => ?_, fun j => ?_, fun j k p q hjk hj hk hp hq => ?_, fun j p hj hp => ?_, h.outer⟩
  · by_cases ej : j = i
    · subst ej
      simp only [PS.put, if_true]
      refine ⟨by rw [hbe]; exact Nat.le_refl _, fun _ sz2 es2 hs2 => ⟨rfl, ?_⟩⟩
      rw [hbe] at hs2
      cases hs2
      simp only [if_true]
      rcases hH with ⟨h1, h2, h3⟩ | ⟨b, cap, h1, h2, h3, h4⟩
      · exact .inl ⟨h1, h2, by rw [hl, h3]; rfl⟩
      · exact .inr ⟨b, cap, h1, by rw [hl]; exact h2, by rw [hl]; exact h3, h4⟩
    · simp only [PS.put, if_neg ej, hut]
      exact (h.temps j).change hext hcomp
  · show BR w (Nn O _ u.bx) _ (u.bx j).st
    by_cases ej : j = e
    · subst ej
      rw [hbe]
      simp only [if_true]
      refine ⟨hB.1, ?_⟩
      rcases hB.2 with hb' | ⟨b, hp, ho, hc⟩
      · exact .inl hb'
      · exact .inr ⟨b, hp, ho, fun i hi => (hc i hi).ext hext rfl⟩
    · by_cases ed : j = d
      · subst ed; rw [hbd]; trivial
      · rw [hbo j ed ej]
        simp only [if_neg ej]
        have hb' := h.boxes j
        cases hst : (s.bx j).st with
        | var cs =>
          rw [hst] at hb'
          obtain ⟨b, base, hp, ho, hc⟩ := hb'
          exact ⟨b, base, hp, ho, hc.ext hext rfl⟩
        | vfz cs =>
          rw [hst] at hb'
          obtain ⟨b, base, hp, hlt, hN, hc⟩ := hb'
          exact ⟨b, base, hp, hlt, fun hn => hN (hless b hn), hc.ext hext rfl⟩
        | sl sz es =>
          rw [hst] at hb'
          refine ⟨hb'.1, ?_⟩
          rcases hb'.2 with hb' | ⟨b, hp, ho, hc⟩
          · exact .inl hb'
          · exact .inr ⟨b, hp, ho, fun i hi => (hc i hi).ext hext rfl⟩
        | dead => trivial
  · have key : ∀ j, (u.bx j).st.owned = true → ∃ j', (s.bx j').st.owned = true ∧ (if j = e then β d else β j) = β j' ∧ ((j = e ∧ j' = d) ∨ (j ≠ e ∧ j ≠ d ∧ j' = j)) := by
      intro j hj
      by_cases ej : j = e
      · exact ⟨d, hown, by simp [ej], .inl ⟨ej, rfl⟩⟩
      · by_cases ed : j = d
        · subst ed; rw [hbd] at hj; cases hj
        · rw [hbo j ed ej] at hj; exact ⟨j, hj, by simp [ej], .inr ⟨ej, ed, rfl⟩⟩
    obtain ⟨j', hj1, hj2, hj3⟩ := key j hj
    obtain ⟨k', hk1, hk2, hk3⟩ := key k hk
    have hp : (if j = e then β d else β j) = some p := hp
    have hq : (if k = e then β d else β k) = some q := hq
    rw [hj2] at hp
    rw [hk2] at hq
    refine h.inj j' k' p q ?_ hj1 hk1 hp hq
    rcases hj3 with ⟨e1, e2⟩ | ⟨e1, e2, e3⟩ <;> rcases hk3 with ⟨f1, f2⟩ | ⟨f1, f2, f3⟩
    · exact absurd (e1.trans f1.symm) hjk
    · rw [e2, f3]; exact fun h => f2 h.symm
    · rw [e3, f2]; exact e2
    · rw [e3, f3]; exact hjk
  · by_cases ej : j = e
    · simp only [if_pos ej] at hp; exact h.out d p hown hp
    · simp only [if_neg ej] at hp
      by_cases ed : j = d
      · subst ed
        have hj' : (u.bx j).st.owned = true := hj
        rw [hbd] at hj'; cases hj'
      · have hj' : (u.bx j).st.owned = true := hj
        rw [hbo j ed ej] at hj'; exact h.out j p hj' hp
end
end Go.Pl

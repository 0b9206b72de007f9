/-
  append, as the plain step has it; a slice that is frozen. My own work.
-/
import Derived.Test.YtcmejdkjfekoeaaPlOps8
namespace Go.Pl
open Go
set_option linter.unusedVariables false
section
variable {O A0 : Nat → Prop} {w0 w : World} {β : Bt} {s : PS} {a : Act} {P : Program}

theorem Does.mk {o : Oper} {s' : PS} {v : Value} {w' : World} {β' : Bt} (hr : (execOp a.eval o).run P w = .ok (.value v) w') (h : Sim O w0 A0 β' s' (tmf (a.put o.dst v)) w') : Does P o O A0 w0 a w s' :=
  ⟨_, v, w', β', hr, .inl rfl, h⟩

/-- A box is given up: what it held is closed now. -/
theorem Sim.kill {tm : Nat → Value} (h : Sim O w0 A0 β s tm w) (d : Nat) : Sim O w0 A0 β (s.box d ⟨(s.bx d).ver, .dead⟩) tm w := by
  have := h.change (w' := w) d (β d) ⟨(s.bx d).ver, .dead⟩ rfl rfl rfl (Nat.le_refl _) (fun b _ _ => rfl) (.inr ⟨rfl, .inl rfl⟩) (fun p ho => by cases ho) trivial
  have e : (fun i => if i = d then β d else β i) = β := by funext i; split <;> simp_all
  rw [e] at this
  exact this

theorem kill_ext (d : Nat) (v : Nat) : Ext w (Nn O β s.bx) w (Nn O β (s.box d ⟨v, .dead⟩).bx) := by
  refine .of_less fun b hb => ?_
  rcases hb with hb | ⟨i, base, ho, hi⟩
  · exact .inl hb
  · by_cases e : i = d
    · simp only [PS.box, if_pos e] at ho; cases ho
    · simp only [PS.box, if_neg e] at ho; exact .inr ⟨i, base, ho, hi⟩

/-- the block of a box that was given up is nobody's -/
theorem killed_free {tm : Nat → Value} (h : Sim O w0 A0 β s tm w) {d v b : Nat} {base : Nat} (ho : (s.bx d).st.owned = true) (hb : β d = some (b, base)) : ¬ Nn O β (s.box d ⟨v, .dead⟩).bx b := by
  rintro (hn | ⟨i, base', hi, hbi⟩)
  · exact (h.out d _ ho hb).1 hn
  · by_cases e : i = d
    · simp only [PS.box, if_pos e] at hi; cases hi
    · simp only [PS.box, if_neg e] at hi
      exact h.inj i d _ _ e hi ho hbi hb rfl

/-- a slice of the frame's own, given up, is closed -/
theorem close_own {tm : Nat → Value} (h : Sim O w0 A0 β s tm w) {d sz : Nat} {es : List (List CV)} (hst : (s.bx d).st = .sl sz es) {v : Value} (hv : Hdr w (β d) sz es v) (q : Nat) :
    V w (Nn O β (s.box d ⟨q, .dead⟩).bx) v (.sl es) := by
  have ho : (s.bx d).st.owned = true := by rw [hst]; rfl
  rcases hv with ⟨_, rfl, rfl⟩ | ⟨b, cap, hb, rfl, hl, _⟩
  · exact V.nil
  · have hB := h.boxes d
    rw [hst, hb] at hB
    obtain ⟨arr, el, hheap, hfl⟩ := Flat.of_box hB
    exact (hfl.ext (kill_ext d q)).closed hheap (killed_free h ho hb) hl

/-- what a slot's header is, as 'Hdr' -/
theorem hdr_of {N : Nat → Prop} {v : Value} {d ver off len sz : Nat} {es : List (List CV)} (hR : R w N β s.bx v (.osl d ver off len)) (hb : s.bx d = ⟨ver, .sl sz es⟩) (hl : len = es.length)
    (hbr : BR w N (β d) (.sl sz es)) : Hdr w (β d) sz es v := by
  obtain ⟨_, hor⟩ := hR.2 (by rw [hb]) sz es (by rw [hb])
  subst hl
  rcases hor with ⟨h1, h2, h3⟩ | ⟨b, cap, h1, h2, h3, h4⟩
  · refine .inl ⟨h1, h2, List.eq_nil_of_length_eq_zero h3⟩
  · exact .inr ⟨b, cap, h1, h2, h3, h4⟩

/-- One box's content goes over to another box. -/
theorem Sim.move {tm : Nat → Value} (h : Sim O w0 A0 β s tm w) {d e sz : Nat} {es : List (List CV)} (hde : d ≠ e) (hst : (s.bx d).st = .sl sz es) :
    Sim O w0 A0 (fun i => if i = e then β d else β i) ((s.box d ⟨(s.bx d).ver, .dead⟩).box e ⟨(s.bx e).ver + 1, .sl sz es⟩) tm w := by
  have hod : (s.bx d).st.owned = true := by rw [hst]; rfl
  have hless : ∀ b, Nn O (fun i => if i = e then β d else β i) ((s.box d ⟨(s.bx d).ver, .dead⟩).box e ⟨(s.bx e).ver + 1, .sl sz es⟩).bx b → Nn O β s.bx b := by
    rintro b (hb | ⟨i, base, ho, hi⟩)
    · exact .inl hb
    · by_cases ei : i = e
      · simp only [if_pos ei] at hi; exact .inr ⟨d, base, hod, hi⟩
      · simp only [if_neg ei] at hi
        by_cases ed : i = d
        · simp only [PS.box, if_neg ei, if_pos ed] at ho; cases ho
        · simp only [PS.box, if_neg ei, if_neg ed] at ho; exact .inr ⟨i, base, ho, hi⟩
  have hext := Ext.of_less (w := w) hless
  have hcomp : ∀ i, Compat w w (β i) ((fun i => if i = e then β d else β i) i) (s.bx i) (((s.box d ⟨(s.bx d).ver, .dead⟩).box e ⟨(s.bx e).ver + 1, .sl sz es⟩).bx i) := by
    intro i
    by_cases ei : i = e
    · subst ei; simp only [PS.box, if_true]; exact .inl (Nat.lt_succ_self _)
    · by_cases ed : i = d
      · subst ed; simp only [PS.box, if_neg ei, if_true]; exact .inr ⟨rfl, .inl rfl⟩
      · simp only [PS.box, if_neg ei, if_neg ed]; exact Compat.same fun _ _ _ _ h => h
  refine ⟨h.os, h.tape, h.output, h.size, h.keep, fun i => (h.temps i).change hext hcomp, ?_, ?_, ?_, h.outer⟩
  · intro i
    have hB := h.boxes i
    by_cases ei : i = e
    · subst ei
      simp only [PS.box, if_true]
      have hB := h.boxes d
      rw [hst] at hB
      refine ⟨hB.1, ?_⟩
      rcases hB.2 with hb | ⟨b, hp, ho, hc⟩
      · exact .inl hb
      · exact .inr ⟨b, hp, ho, fun i hi => (hc i hi).ext hext rfl⟩
    · by_cases ed : i = d
      · simp only [PS.box, if_neg ei, if_pos ed]; trivial
      · simp only [PS.box, if_neg ei, if_neg ed]
        cases hsi : (s.bx i).st with
        | var cs =>
          rw [hsi] at hB
          obtain ⟨b, base, hp, ho, hc⟩ := hB
          exact ⟨b, base, hp, ho, hc.ext hext rfl⟩
        | vfz cs =>
          rw [hsi] at hB
          obtain ⟨b, base, hp, hlt, hN, hc⟩ := hB
          exact ⟨b, base, hp, hlt, fun hn => hN (hless b hn), hc.ext hext rfl⟩
        | sl sz' es' =>
          rw [hsi] at hB
          refine ⟨hB.1, ?_⟩
          rcases hB.2 with hb | ⟨b, hp, ho, hc⟩
          · exact .inl hb
          · exact .inr ⟨b, hp, ho, fun i hi => (hc i hi).ext hext rfl⟩
        | dead => trivial
  · intro i j p q hij hi hj hp hq
    have key : ∀ i p, (((s.box d ⟨(s.bx d).ver, .dead⟩).box e ⟨(s.bx e).ver + 1, .sl sz es⟩).bx i).st.owned = true → (if i = e then β d else β i) = some p →
        ∃ k, (k = if i = e then d else i) ∧ (s.bx k).st.owned = true ∧ β k = some p ∧ (i ≠ e → i ≠ d) := by
      intro i p hi hp
      by_cases ei : i = e
      · simp only [if_pos ei] at hp ⊢; exact ⟨d, rfl, hod, hp, fun h => absurd ei h⟩
      · by_cases ed : i = d
        · simp only [PS.box, if_neg ei, if_pos ed] at hi; cases hi
        · simp only [PS.box, if_neg ei, if_neg ed] at hi; simp only [if_neg ei] at hp ⊢; exact ⟨i, rfl, hi, hp, fun _ => ed⟩
    obtain ⟨k, hk, hko, hkp, hkd⟩ := key i p hi hp
    obtain ⟨m, hm, hmo, hmp, hmd⟩ := key j q hj hq
    refine h.inj k m p q ?_ hko hmo hkp hmp
    intro e'
    subst hk; subst hm
    by_cases ei : i = e <;> by_cases ej : j = e
    · exact hij (ei.trans ej.symm)
    · rw [if_pos ei, if_neg ej] at e'; exact hmd ej e'.symm
    · rw [if_neg ei, if_pos ej] at e'; exact hkd ei e'
    · rw [if_neg ei, if_neg ej] at e'; exact hij e'
  · intro i p hi hp
    by_cases ei : i = e
    · simp only [if_pos ei] at hp; exact h.out d p hod hp
    · by_cases ed : i = d
      · simp only [PS.box, if_neg ei, if_pos ed] at hi; cases hi
      · simp only [PS.box, if_neg ei, if_neg ed] at hi; simp only [if_neg ei] at hp; exact h.out i p hi hp

theorem box_box (s : PS) (d : Nat) (b b' : Box) : (s.box d b).box d b' = s.box d b' := by
  simp only [PS.box, PS.mk.injEq, true_and]; funext i; split <;> rfl

theorem ok_app {o : Oper} {c : Call} {t e e2 u : TypeId} {x y : Operand} {x' y' : PO} {i : TypeInfo} {sz : Nat} {zv : Value} {own : Bool} (ho : o.op = .call c) (hcal : c.callee = .builtin .append) (hargs : c.args = #[x, y]) (hty : c.argTypes = #[t, u])
    (h : Sim O w0 A0 β s (tmf a) w) (hd : dstOk o.dst a.tmps.size) (hcx : chkPO x x' = true) (hcy : chkPO y y' = true)
    (hu : P.underlying t = some (.slice e)) (hu2 : P.underlying u = some (.slice e2)) (hi : P.info? e = some i) (hisz : i.size = sz) (hsz : 0 < sz) (hby : i.bytes ≤ 16384) (hby0 : i.bytes ≠ 0) (hz : i.zero = some zv) (hzs : zv.cells.size = sz)
    {s' : PS} (hs : pstep o.dst s (.app sz x' y' own) = some s') : Does P o O A0 w0 a w s' := by
  simp only [pstep] at hs
  split at hs
  · rename_i k d ver off len ys hdst hx hy
    split at hs
    · rename_i q sz' es hb
      split at hs
      · rename_i hc
        obtain ⟨rfl, rfl, rfl, hlen, hr, hw⟩ := hc
        have hR := ev_R h hcx
        rw [hx] at hR
        have hB := h.boxes d
        rw [hb] at hB
        obtain ⟨v, w', p', hrun, hH, hS⟩ := run_append ho hcal hargs hty hu hu2 hi hisz hsz hby hby0 hz hzs h hb (hdr_of hR hb hlen hB) (evc_V h hcy hy) hr hw
        have hkd := hd k hdst
        have hd1 : (s.box d ⟨q + 1, .sl sz' (es ++ ys)⟩).bx d = ⟨q + 1, .sl sz' (es ++ ys)⟩ := by simp [PS.box]
        have hb1 : (fun i => if i = d then p' else β i) d = p' := by simp
        split at hs
        · -- as the frame's own
          obtain rfl := Option.some.inj hs
          by_cases hdk : d = k
          · subst hdk
            have e1 : (s.box d ⟨q + 1, .dead⟩).box d ⟨(s.bx d).ver + 1, .sl sz' (es ++ ys)⟩ = s.box d ⟨q + 1, .sl sz' (es ++ ys)⟩ := by rw [box_box, hb]
            rw [e1]
            refine Does.mk (β' := fun i => if i = d then p' else β i) hrun ?c
            case c =>
              rw [hdst, tmf_put _ hkd]
              refine hS.put d _ v ?_
              refine ⟨?_, fun _ sz2 es2 hs2 => ⟨rfl, ?_⟩⟩
              · rw [hd1, hb]; exact Nat.le_refl _
              · rw [hd1] at hs2
                cases hs2
                simp only [if_true]
                rcases hH with ⟨h1, h2, h3⟩ | ⟨b, cap, h1, h2, h3, h4⟩
                · exact .inl ⟨h1, h2, by rw [h3]; rfl⟩
                · exact .inr ⟨b, cap, h1, h2, h3, h4⟩
          · have hmv := hS.move (d := d) (e := k) (sz := sz') (es := es ++ ys) hdk (by rw [hd1])
            have e1 : ((s.box d ⟨q + 1, .sl sz' (es ++ ys)⟩).box d ⟨((s.box d ⟨q + 1, .sl sz' (es ++ ys)⟩).bx d).ver, .dead⟩) = s.box d ⟨q + 1, .dead⟩ := by rw [hd1, box_box]
            have e2 : ((s.box d ⟨q + 1, .sl sz' (es ++ ys)⟩).bx k).ver = (s.bx k).ver := by simp [PS.box, Ne.symm hdk]
            rw [e1, e2] at hmv
            refine Does.mk (β' := fun i => if i = k then (if d = d then p' else β d) else (if i = d then p' else β i)) hrun ?c
            case c =>
              rw [hdst, tmf_put _ hkd]
              have hbk : ((s.box d ⟨q + 1, .dead⟩).box k ⟨(s.bx k).ver + 1, .sl sz' (es ++ ys)⟩).bx k = ⟨(s.bx k).ver + 1, .sl sz' (es ++ ys)⟩ := by simp [PS.box]
              refine hmv.put k _ v ?_
              refine ⟨?_, fun _ sz2 es2 hs2 => ⟨rfl, ?_⟩⟩
              · rw [hbk]; exact Nat.le_refl _
              · rw [hbk] at hs2
                cases hs2
                simp only [if_true]
                rcases hH with ⟨h1, h2, h3⟩ | ⟨b, cap, h1, h2, h3, h4⟩
                · exact .inl ⟨h1, h2, by rw [h3]; rfl⟩
                · exact .inr ⟨b, cap, h1, h2, h3, h4⟩
        · -- closed
          obtain rfl := Option.some.inj hs
          have hK := hS.kill d
          have hV := close_own hS (d := d) (sz := sz') (es := es ++ ys) (by rw [hd1]) (v := v) (by simpa using hH) (q + 1)
          have e1 : ((s.box d ⟨q + 1, .sl sz' (es ++ ys)⟩).box d ⟨((s.box d ⟨q + 1, .sl sz' (es ++ ys)⟩).bx d).ver, .dead⟩) = s.box d ⟨q + 1, .dead⟩ := by rw [hd1, box_box]
          rw [e1] at hK
          rw [box_box] at hV
          refine Does.mk (β' := fun i => if i = d then p' else β i) hrun ?c
          case c =>
            rw [hdst, tmf_put _ hkd]
            exact hK.put k _ v hV
      · cases hs
    · cases hs
  · cases hs

/-- 'fz': a slice of the frame's own is read out for good. -/
theorem Sim.fz (h : Sim O w0 A0 β s (tmf a) w) {i d ver off len : Nat} (hi : s.t i = .osl d ver off len) {v : CV} (hc : s.close (.osl d ver off len) = some v) :
    Sim O w0 A0 β ((s.box d ⟨ver, .dead⟩).put i (.c v)) (tmf a) w := by
  have hR := h.temps i
  rw [hi] at hR
  simp only [PS.close] at hc
  split at hc
  · rename_i q sz es hb
    split at hc
    · rename_i hcond
      obtain ⟨rfl, rfl, hl⟩ := hcond
      obtain rfl := Option.some.inj hc
      have hB := h.boxes d
      rw [hb] at hB
      have hV := close_own h (d := d) (sz := sz) (es := es) (by rw [hb]) (hdr_of hR hb hl hB) q
      have hK := h.kill d
      rw [hb] at hK
      have hput := hK.put i (.c (.sl es)) (tmf a i) hV
      have e : (fun j => if j = i then tmf a i else tmf a j) = tmf a := by funext j; split <;> simp_all
      rw [e] at hput
      exact hput
    · cases hc
  · cases hc
end
end Go.Pl

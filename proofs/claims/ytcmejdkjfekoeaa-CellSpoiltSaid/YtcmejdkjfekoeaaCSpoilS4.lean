/- Part of the proof of CellSpoilt: lemmas. -/
import Derived.Test.YtcmejdkjfekoeaaCSpoilS1
import Derived.Test.YtcmejdkjfekoeaaCSpoilS3
import Derived.Orders
import Derived.LoopN
set_option linter.unusedVariables false
set_option linter.unusedSimpArgs false
/-
  A CALL OF A GO FUNCTION, AS PLAIN STATES HAVE IT. My own work.
-/
namespace Go.Pl
open Go
set_option linter.unusedVariables false
def initPS (args : List AV) : PS where
  t := fun i => match args[i]? with
    | some (.c v) => .c v
    | some (.own _ es) => .osl i 0 0 es.length
    | some (.io _) => .ptr i 0 0
    | none => .undef
  bx := fun i => match args[i]? with
    | some (.own sz es) => ⟨0, .sl sz es⟩
    | some (.io cs) => ⟨0, .var cs⟩
    | _ => ⟨0, .dead⟩
def retPS (args : List AV) (r : RV) (outs : List (List CV)) : PS where
  t := fun i => if i = args.length then (match r with
    | .c v => .c v
    | .own _ es => .osl i 0 0 es.length) else .junk
  bx := fun i => if i = args.length then (match r with
    | .own sz es => ⟨0, .sl sz es⟩
    | .c _ => ⟨0, .dead⟩) else match args[i]? with
    | some (.io _) => ⟨0, .var (outs.headD [])⟩
    | _ => ⟨0, .dead⟩
def PCallG (P : Program) : CallP := fun f args r outs =>
  ∀ (w : World) (O A : Nat → Prop) (β : Bt) (vs : Array Value), vs.size = args.length → Sim O w ⟨A, β⟩ β (initPS args) (fun i => vs.getD i undef) w →
    Calls P f vs w fun e w' => ∃ v β', e = .returned v ∧ Sim O w ⟨A, β'⟩ β' (retPS args r outs) (fun i => if i = args.length then v else undef) w' ∧ ∀ i cs, args[i]? = some (.io cs) → β' i = β i
section
variable {O : Nat → Prop} {A0 : Lent} {w0 w : World} {β : Bt} {s : PS} {a : Act} {P : Program}
theorem Nn_initC {O : Nat → Prop} {β : Bt} {cs : List CV} {b : Nat} (h : Nn O β (initPS (cs.map .c)).bx b) : O b := by
  rcases h with h | ⟨i, base, ho, _⟩
  · exact h
  · simp only [initPS, List.getElem?_map] at ho
    cases hc : cs[i]? <;> rw [hc] at ho <;> cases ho
theorem sim_initC (h : Sim O w0 A0 β s (tmf a) w) {cs : List CV} {vs : Array Value} (hl : vs.size = cs.length) (hV : ∀ (i : Nat) (h1 : i < vs.size) (h2 : i < cs.length), V w (Nn O β s.bx) vs[i] cs[i]) :
    Sim (Nn O β s.bx) w ⟨fun _ => False, fun _ => none⟩ (fun _ => none) (initPS (cs.map .c)) (fun i => vs.getD i undef) w := by
  have hno : ∀ i, ((initPS (cs.map AV.c)).bx i).st.owned = false := by
    intro i
    simp only [initPS, List.getElem?_map]
    cases hc : cs[i]? <;> rfl
  have hext : Ext w (Nn O β s.bx) w (Nn (Nn O β s.bx) (fun _ => none) (initPS (cs.map AV.c)).bx) := .of_less fun b hb => Nn_initC hb
  refine ⟨rfl, rfl, rfl, Nat.le_refl _, fun _ _ _ => rfl, fun i => ?_, fun d => ?_, fun d d' p p' _ ho => (by rw [hno d] at ho; cases ho), fun d p ho => (by rw [hno d] at ho; cases ho), fun b hb => ⟨?_, fun h => h⟩, fun d ps hd => absurd (hno d) (by rw [hd]; simp [BSt.owned]), fun d _ ho => rfl⟩
  · by_cases hi : i < cs.length
    · have : (initPS (cs.map AV.c)).t i = .c cs[i] := by simp [initPS, hi]
      rw [this]
      have hv : vs.getD i undef = vs[i]'(by omega) := by simp [show i < vs.size by omega]
      rw [hv]
      exact (hV i (by omega) hi).ext hext
    · have : (initPS (cs.map AV.c)).t i = .undef := by simp [initPS, hi]
      rw [this]
      show vs.getD i undef = undef
      simp [show ¬ i < vs.size by omega]
  · have : ((initPS (cs.map AV.c)).bx d).st = .dead := by
      simp only [initPS, List.getElem?_map]
      cases hc : cs[d]? <;> rfl
    rw [this]
    trivial
  · rcases hb with hb | ⟨i, base, ho, hi⟩
    · have := (h.outer b hb).1; have := h.size; omega
    · exact (h.out i _ ho hi).2.1
theorem back_C (h : Sim O w0 A0 β s (tmf a) w) {cs : List CV} {r : CV} {outs : List (List CV)} {v : Value} {w' : World} {β' : Bt} (hS : Sim (Nn O β s.bx) w ⟨fun _ => False, β'⟩ β' (retPS (cs.map .c) (.c r) outs) (fun i => if i = (cs.map AV.c).length then v else undef) w') :
    Sim O w0 A0 β s (tmf a) w' ∧ V w' (Nn O β s.bx) v r := by
  have hg := h.grow (w' := w') hS.os hS.tape hS.output hS.size fun b hb => hS.keep b hb fun h => h
  refine ⟨hg, ?_⟩
  have ht := hS.temps (cs.map AV.c).length
  simp only [retPS, if_true] at ht
  refine V.ext (.of_less fun b hb => .inl hb) ht
def Oc (O : Nat → Prop) (β : Bt) (bx : Nat → Box) (d0 : Nat) (b : Nat) : Prop := O b ∨ ∃ d base, d ≠ d0 ∧ (bx d).st.owned = true ∧ β d = some (b, base)
def headSt : AV → BSt
  | .own sz es => .sl sz es
  | .io cs => .var cs
  | .c _ => .dead
theorem init_bx (av : AV) (cs : List CV) (i : Nat) : ((initPS (av :: cs.map .c)).bx i).st = if i = 0 then headSt av else .dead := by
  cases i with
  | zero => cases av <;> rfl
  | succ i =>
    simp only [initPS, List.getElem?_cons_succ, List.getElem?_map]
    cases hc : cs[i]? <;> rfl
theorem Nn_init1 {O : Nat → Prop} {bx : Nat → Box} {d0 : Nat} {av : AV} {cs : List CV} {b : Nat} (ho : (bx d0).st.owned = true)
    (h : Nn (Oc O β bx d0) (fun i => if i = 0 then β d0 else none) (initPS (av :: cs.map .c)).bx b) : Nn O β bx b := by
  rcases h with (h | ⟨d, base, _, h1, h2⟩) | ⟨i, base, hi, hb⟩
  · exact .inl h
  · exact .inr ⟨d, base, h1, h2⟩
  · rw [init_bx] at hi
    by_cases e : i = 0
    · subst e; simp only [if_true] at hb; exact .inr ⟨d0, base, ho, hb⟩
    · simp only [if_neg e] at hi; cases hi
theorem sim_init1 (h : Sim O w0 A0 β s (tmf a) w) {d0 : Nat} {av : AV} (hst : (s.bx d0).st = headSt av) (ho : (s.bx d0).st.owned = true) {cs : List CV} {v0 : Value} {vs : List Value} (hl : vs.length = cs.length)
    (hV : ∀ (i : Nat) (h1 : i < vs.length) (h2 : i < cs.length), V w (Nn O β s.bx) vs[i] cs[i])
    (hR : R w (Nn (Oc O β s.bx d0) (fun i => if i = 0 then β d0 else none) (initPS (av :: cs.map .c)).bx) (fun i => if i = 0 then β d0 else none) (initPS (av :: cs.map .c)).bx v0 ((initPS (av :: cs.map .c)).t 0)) :
    Sim (Oc O β s.bx d0) w ⟨fun b => ∃ base, β d0 = some (b, base), fun i => if i = 0 then β d0 else none⟩ (fun i => if i = 0 then β d0 else none) (initPS (av :: cs.map .c)) (fun i => (v0 :: vs).toArray.getD i undef) w := by
  have hext : Ext w (Nn O β s.bx) w (Nn (Oc O β s.bx d0) (fun i => if i = 0 then β d0 else none) (initPS (av :: cs.map .c)).bx) := .of_less fun b hb => Nn_init1 ho hb
  have hown : ∀ i, ((initPS (av :: cs.map .c)).bx i).st.owned = true → i = 0 := by
    intro i hi
    rw [init_bx] at hi
    by_cases e : i = 0
    · exact e
    · simp only [if_neg e] at hi; cases hi
  refine ⟨rfl, rfl, rfl, Nat.le_refl _, fun _ _ _ => rfl, fun i => ?_, fun d => ?_, fun d d' p p' hdd hod hod' => absurd ((hown d hod).trans (hown d' hod').symm) hdd, fun d p hod hp => ?_, fun b hb => ⟨?_, ?_⟩, fun d ps hd => ?_, fun d _ _ => rfl⟩
  · cases i with
    | zero => simpa using hR
    | succ i =>
      by_cases hi : i < cs.length
      · have : (initPS (av :: cs.map AV.c)).t (i + 1) = .c cs[i] := by simp [initPS, hi]
        rw [this]
        have hv : (v0 :: vs).toArray.getD (i + 1) undef = vs[i]'(by omega) := by simp [show i < vs.length by omega]
        rw [hv]
        exact (hV i (by omega) hi).ext hext
      · have : (initPS (av :: cs.map AV.c)).t (i + 1) = .undef := by simp [initPS, hi]
        rw [this]
        show (v0 :: vs).toArray.getD (i + 1) undef = undef
        simp [show ¬ i < vs.length by omega]
  · rw [init_bx]
    by_cases e : d = 0
    · subst e
      simp only [if_true]
      have hB := h.boxes d0
      rw [hst] at hB
      cases av with
      | c _ => trivial
      | own sz es =>
        refine ⟨hB.1, ?_⟩
        rcases hB.2 with hb | ⟨b, hp, ho, hc⟩
        · exact .inl hb
        · exact .inr ⟨b, hp, ho, fun i hi => (hc i hi).ext hext rfl⟩
      | io c0 =>
        obtain ⟨b, base, hp, ho, hc⟩ := hB
        exact ⟨b, base, hp, ho, hc.ext hext rfl⟩
    · simp only [if_neg e]; trivial
  · have e := hown d hod
    subst e
    simp only [if_true] at hp
    have := h.out d0 p ho hp
    refine ⟨?_, this.2.1, fun _ => ⟨p.2, hp⟩⟩
    rintro (hn | ⟨d', base, hne, ho', hb'⟩)
    · exact this.1 hn
    · exact h.inj d' d0 _ p hne ho' ho hb' hp rfl
  · rcases hb with hb | ⟨d, base, _, hod, hbd⟩
    · have := (h.outer b hb).1; have := h.size; omega
    · exact (h.out d _ hod hbd).2.1
  · rintro ⟨base, hβ⟩
    rcases hb with hb | ⟨d, base', hne, hod, hbd⟩
    · exact (h.out d0 _ ho hβ).1 hb
    · exact h.inj d d0 _ _ hne hod ho hbd hβ rfl
  · rw [init_bx] at hd
    split at hd
    · cases av <;> cases hd
    · cases hd
theorem ret_bx (av : AV) (cs : List CV) (r : RV) (outs : List (List CV)) (i : Nat) : ((retPS (av :: cs.map .c) r outs).bx i).st =
    if i = cs.length + 1 then (match r with | .own sz es => .sl sz es | .c _ => .dead) else if i = 0 then (match av with | .io _ => .var (outs.headD []) | _ => .dead) else .dead := by
  simp only [retPS, List.length_cons, List.length_map]
  by_cases e : i = cs.length + 1
  · simp only [if_pos e]; cases r <;> rfl
  · simp only [if_neg e]
    cases i with
    | zero => cases av <;> rfl
    | succ i =>
      simp only [List.getElem?_cons_succ, List.getElem?_map]
      cases hc : cs[i]? <;> rfl
theorem back_keep {av : AV} {cs : List CV} {r : RV} {outs : List (List CV)} {d0 : Nat} {w' : World} {β' : Bt} {tm : Nat → Value}
    (hS : Sim (Oc O β s.bx d0) w ⟨fun b => ∃ base, β d0 = some (b, base), β'⟩ β' (retPS (av :: cs.map .c) r outs) tm w') (ho : (s.bx d0).st.owned = true) :
    ∀ b, b < w.heap.size → (∀ p, (s.bx d0).st.owned = true → β d0 = some p → b ≠ p.1) → w'.heap[b]? = w.heap[b]? :=
  fun b hb hne => hS.keep b hb (by rintro ⟨base, hβ⟩; exact hne _ ho hβ rfl)
theorem back_io (h : Sim O w0 A0 β s (tmf a) w) {c0 c1 : List CV} {cs : List CV} {r : CV} {d0 ver : Nat} {v : Value} {w' : World} {β' : Bt} (hb : s.bx d0 = ⟨ver, .var c0⟩)
    (hS : Sim (Oc O β s.bx d0) w ⟨fun b => ∃ base, β d0 = some (b, base), β'⟩ β' (retPS (.io c0 :: cs.map .c) (.c r) [c1]) (fun i => if i = (AV.io c0 :: cs.map AV.c).length then v else undef) w') (hβ' : β' 0 = β d0) :
    Sim O w0 A0 β (s.box d0 ⟨ver, .var c1⟩) (tmf a) w' ∧ V w' (Nn O β (s.box d0 ⟨ver, .var c1⟩).bx) v r := by
  have ho : (s.bx d0).st.owned = true := by rw [hb]; rfl
  have e0 : (fun i => if i = d0 then β d0 else β i) = β := by funext i; split <;> simp_all
  have hless : ∀ b, Nn O β (s.box d0 ⟨ver, .var c1⟩).bx b → Nn (Oc O β s.bx d0) β' (retPS (.io c0 :: cs.map .c) (.c r) [c1]).bx b := by
    rintro b (hn | ⟨i, base, hi, hbi⟩)
    · exact .inl (.inl hn)
    · by_cases e : i = d0
      · subst e
        exact .inr ⟨0, base, by rw [ret_bx]; simp [BSt.owned], by rw [hβ']; exact hbi⟩
      · simp only [PS.box, if_neg e] at hi; exact .inl (.inr ⟨i, base, e, hi, hbi⟩)
  have hB := hS.boxes 0
  rw [ret_bx] at hB
  simp only [Nat.zero_ne_add_one, if_false, if_true, List.headD_cons] at hB
  obtain ⟨b, base, hp, hown, hc⟩ := hB
  rw [hβ'] at hp
  have hch := h.change (w' := w') d0 (β d0) ⟨ver, .var c1⟩ hS.os hS.tape hS.output hS.size (back_keep hS ho)
    (.inr ⟨by rw [hb], .inr ⟨rfl, fun _ => (by rw [hb]; rfl), fun sz es hs => (by cases hs)⟩⟩)
    (fun p _ hp => .inl ⟨ho, p, hp, rfl⟩) ⟨b, base, hp, hown, hc.ext (.of_less (by rw [e0]; exact hless)) rfl⟩
  rw [e0] at hch
  refine ⟨hch, ?_⟩
  have ht := hS.temps (AV.io c0 :: cs.map AV.c).length
  simp only [retPS, if_true] at ht
  exact V.ext (.of_less hless) ht
theorem back_ownC (h : Sim O w0 A0 β s (tmf a) w) {cs : List CV} {r : CV} {d0 ver sz : Nat} {es : List (List CV)} {v : Value} {w' : World} {β' : Bt} (hb : s.bx d0 = ⟨ver, .sl sz es⟩)
    (hS : Sim (Oc O β s.bx d0) w ⟨fun b => ∃ base, β d0 = some (b, base), β'⟩ β' (retPS (.own sz es :: cs.map .c) (.c r) []) (fun i => if i = (AV.own sz es :: cs.map AV.c).length then v else undef) w') :
    Sim O w0 A0 β (s.box d0 ⟨ver + 1, .dead⟩) (tmf a) w' ∧ V w' (Nn O β (s.box d0 ⟨ver + 1, .dead⟩).bx) v r := by
  have ho : (s.bx d0).st.owned = true := by rw [hb]; rfl
  have e0 : (fun i => if i = d0 then β d0 else β i) = β := by funext i; split <;> simp_all
  have hless : ∀ b, Nn O β (s.box d0 ⟨ver + 1, .dead⟩).bx b → Nn (Oc O β s.bx d0) β' (retPS (.own sz es :: cs.map .c) (.c r) []).bx b := by
    rintro b (hn | ⟨i, base, hi, hbi⟩)
    · exact .inl (.inl hn)
    · by_cases e : i = d0
      · simp only [PS.box, if_pos e] at hi; cases hi
      · simp only [PS.box, if_neg e] at hi; exact .inl (.inr ⟨i, base, e, hi, hbi⟩)
  have hch := h.change (w' := w') d0 (β d0) ⟨ver + 1, .dead⟩ hS.os hS.tape hS.output hS.size (back_keep hS ho) (.inl (by rw [hb]; exact Nat.lt_succ_self _)) (fun p ho _ => by cases ho) trivial
  rw [e0] at hch
  refine ⟨hch, ?_⟩
  have ht := hS.temps (AV.own sz es :: cs.map AV.c).length
  simp only [retPS, if_true] at ht
  exact V.ext (.of_less hless) ht
theorem back_ownO (h : Sim O w0 A0 β s (tmf a) w) {cs : List CV} {d0 ver sz sz' : Nat} {es zs : List (List CV)} {v : Value} {w' : World} {β' : Bt} (hb : s.bx d0 = ⟨ver, .sl sz es⟩)
    (hS : Sim (Oc O β s.bx d0) w ⟨fun b => ∃ base, β d0 = some (b, base), β'⟩ β' (retPS (.own sz es :: cs.map .c) (.own sz' zs) []) (fun i => if i = (AV.own sz es :: cs.map AV.c).length then v else undef) w')
    {e : Nat} (he : e < a.tmps.size) : ∃ β2, Sim O w0 A0 β2 ((s.box d0 ⟨ver + 1, .dead⟩).putR (some e) (.own sz' zs)) (tmf (a.put (some e) v)) w' := by
  have ho : (s.bx d0).st.owned = true := by rw [hb]; rfl
  have hlen : (AV.own sz es :: cs.map AV.c).length = cs.length + 1 := by simp
  rw [hlen] at hS
  have hless : ∀ q b, Nn O (fun i => if i = d0 then β' (cs.length + 1) else β i) (s.box d0 ⟨q, .sl sz' zs⟩).bx b → Nn (Oc O β s.bx d0) β' (retPS (.own sz es :: cs.map .c) (.own sz' zs) []).bx b := by
    rintro q b (hn | ⟨i, base, hi, hbi⟩)
    · exact .inl (.inl hn)
    · by_cases e : i = d0
      · subst e
        simp only [if_true] at hbi
        exact .inr ⟨cs.length + 1, base, by rw [ret_bx]; simp [BSt.owned], hbi⟩
      · simp only [PS.box, if_neg e] at hi; simp only [if_neg e] at hbi; exact .inl (.inr ⟨i, base, e, hi, hbi⟩)
  have hB := hS.boxes (cs.length + 1)
  rw [ret_bx] at hB
  simp only [if_true] at hB
  have hout := hS.out (cs.length + 1)
  rw [ret_bx] at hout
  simp only [if_true] at hout
  -- the box in its old place
  have stage : ∀ q, ver < q → Sim O w0 A0 (fun i => if i = d0 then β' (cs.length + 1) else β i) (s.box d0 ⟨q, .sl sz' zs⟩) (tmf a) w' := by
    intro q hq
    refine h.change (w' := w') d0 (β' (cs.length + 1)) ⟨q, .sl sz' zs⟩ hS.os hS.tape hS.output hS.size (back_keep hS ho) (.inl (by rw [hb]; exact hq)) ?_ ?_
    · intro p _ hp
      have := hout p rfl hp
      by_cases hlt : p.1 < w.heap.size
      · obtain ⟨base, hβ⟩ := this.2.2 hlt
        exact .inl ⟨ho, _, hβ, rfl⟩
      · exact .inr ⟨by omega, this.2.1⟩
    · refine ⟨hB.1, ?_⟩
      rcases hB.2 with hb' | ⟨b, hp, ho', hc⟩
      · exact .inl hb'
      · exact .inr ⟨b, hp, ho', fun i hi => (hc i hi).ext (.of_less (hless q)) rfl⟩
  have ht := hS.temps (cs.length + 1)
  simp only [retPS, List.length_cons, List.length_map, if_true] at ht
  have hH : Hdr w' (β' (cs.length + 1)) sz' zs v := by
    obtain ⟨_, hor⟩ := ht.2 (by simp) sz' zs (by simp)
    rcases hor with ⟨h1, h2, h3⟩ | ⟨b, cap, h1, h2, h3, h4⟩
    · exact .inl ⟨h1, h2, List.eq_nil_of_length_eq_zero h3⟩
    · exact .inr ⟨b, cap, h1, h2, h3, h4⟩
  have hHp : ∀ (d : Nat) (β2 : Bt) (bx2 : Nat → Box) (N : Nat → Prop) (q : Nat), bx2 d = ⟨q, .sl sz' zs⟩ → β2 d = β' (cs.length + 1) → R w' N β2 bx2 v (.osl d q 0 zs.length) := by
    intro d β2 bx2 N q hbx hβ
    refine ⟨⟨by rw [hbx]; exact Nat.le_refl _, hH.one⟩, fun _ sz2 es2 hs2 => ⟨rfl, ?_⟩⟩
    rw [hbx] at hs2
    cases hs2
    rcases hH with ⟨h1, h2, h3⟩ | ⟨b, cap, h1, h2, h3, h4⟩
    · exact .inl ⟨hβ.trans h1, h2, by rw [h3]; rfl⟩
    · exact .inr ⟨b, cap, hβ.trans h1, h2, h3, h4⟩
  by_cases hde : d0 = e
  · subst hde
    have hst := stage (ver + 1 + 1) (by omega)
    have e1 : (s.box d0 ⟨ver + 1, .dead⟩).putR (some d0) (.own sz' zs) = (s.box d0 ⟨ver + 1 + 1, .sl sz' zs⟩).put d0 (.osl d0 (ver + 1 + 1) 0 zs.length) := by
      simp only [PS.putR, box_box]
      simp [PS.box]
    rw [e1, tmf_put _ he]
    exact ⟨_, hst.put d0 _ v (hHp d0 _ _ _ _ (by simp [PS.box]) (by simp))⟩
  · have hst := (stage (ver + 1) (by omega)).move (d := d0) (e := e) (sz := sz') (es := zs) hde (by simp [PS.box])
    have e1 : ((s.box d0 ⟨ver + 1, .sl sz' zs⟩).box d0 ⟨((s.box d0 ⟨ver + 1, .sl sz' zs⟩).bx d0).ver, .dead⟩) = s.box d0 ⟨ver + 1, .dead⟩ := by rw [box_box]; simp [PS.box]
    have e2 : ((s.box d0 ⟨ver + 1, .sl sz' zs⟩).bx e).ver = (s.bx e).ver := by simp [PS.box, Ne.symm hde]
    rw [e1, e2] at hst
    have e3 : (s.box d0 ⟨ver + 1, .dead⟩).putR (some e) (.own sz' zs) = ((s.box d0 ⟨ver + 1, .dead⟩).box e ⟨(s.bx e).ver + 1, .sl sz' zs⟩).put e (.osl e ((s.bx e).ver + 1) 0 zs.length) := by
      simp only [PS.putR]
      have : ((s.box d0 ⟨ver + 1, .dead⟩).bx e) = s.bx e := by simp [PS.box, Ne.symm hde]
      rw [this]
    rw [e3, tmf_put _ he]
    exact ⟨_, hst.put e _ v (hHp e _ _ _ _ (by simp [PS.box]) (by simp))⟩
end
end Go.Pl
/-
  ONE OPERATION OF A REGION, AS THE MODEL RUNS IT, AND THE PLAIN STEP. My own work.
-/
namespace Go.Pl
open Go
set_option linter.unusedVariables false
def chkCall (P : Program) (o : Oper) (f : FuncId) (args : List PO) : Bool :=
  match o.op with
  | .call ⟨.value (.func f'), cargs, _⟩ => decide (f' = f) && chkPOs cargs.toList args && match P.funcs[f]? with
    | some fn => decide (fn.name ≠ "runtime.NumGoroutine") && fn.body.isSome
    | none => false
  | _ => false
def chkG (ops : Array Oper) (g : Option (Nat × Bool)) (g' : Option (Nat × Bool)) : Bool :=
  match g, g' with
  | none, none => true
  | some (j, w), some (t, w') => (w == w') && decide ((ops[j]?).bind (·.dst) = some t)
  | _, _ => false
def chkP (P : Program) (n : Nat) (ops : Array Oper) (o : Oper) (p : POp) : Bool :=
  decide (o.dst = p.dst) && (match o.dst with | some d => decide (d < n) | none => true) && chkG ops o.guard p.g &&
    (match p.k with
    | .call _ f args => chkCall P o f args
    | k => chkK P o k)
section
variable {O : Nat → Prop} {A0 : Lent} {w0 w : World} {β : Bt} {s : PS} {a : Act} {P : Program}
theorem put_size (a : Act) (d : Option Tmp) (v : Value) : (a.put d v).tmps.size = a.tmps.size := by
  cases d <;> simp [Act.put]
theorem put_defers (a : Act) (d : Option Tmp) (v : Value) : (a.put d v).defers = a.defers := by
  cases d <;> rfl
theorem exec_call {o : Oper} {f : FuncId} {cargs : Array Operand} {tys : Array TypeId} (ho : o.op = .call ⟨.value (.func f), cargs, tys⟩) {fn : Func} (hf : P.funcs[f]? = some fn) (hn : fn.name ≠ "runtime.NumGoroutine") (hb : fn.body.isSome = true) :
    (execOp a.eval o).run P w = .ok (.enter f (cargs.map a.eval)) w := by
  unfold execOp
  simp [ho, resolve, Act.eval, Deferred.ofValue, invoke, callFunc, program, Sem.run_bind, Sem.run, hf]
  rw [if_neg hn, if_neg (by intro h; simp [h] at hb)]
theorem op_wp {ops : Array Oper} {o : Oper} {p : POp} {n : Nat} (hc : (match p.k with | .call _ f args => chkCall P o f args | k => chkK P o k) = true) (hdst : o.dst = p.dst) (hd : dstOk o.dst a.tmps.size)
    (h : Sim O w0 A0 β s (tmf a) w) {K : PS → Prop} (hw : wpK (PCallG P) p s K) {next : Act → World → Prop} {Q : Exit → Act → World → Prop}
    (hnext : ∀ β' s' v w', Sim O w0 A0 β' s' (tmf (a.put o.dst v)) w' → K s' → next (a.put o.dst v) w') : o.wp P a w next Q := by
  have plain : ∀ k, chkK P o k = true → (match pstep p.dst s k with | some s' => K s' | none => False) → o.wp P a w next Q := by
    intro k hk hs
    cases hp : pstep p.dst s k with
    | none => rw [hp] at hs; exact hs.elim
    | some s' =>
      rw [hp] at hs
      rw [← hdst] at hp
      obtain ⟨nx, v, w', β', hr, hnx, hS⟩ := chkK_ok hk h hd hp
      unfold Oper.wp
      rw [hr]
      rcases hnx with rfl | ⟨rfl, rfl⟩
      · exact hnext _ _ _ _ hS hs
      · exact hnext _ _ _ _ hS hs
  obtain ⟨pd, pk, pg⟩ := p
  simp only at hc hdst
  cases pk
  case call m f args =>
    simp only [chkCall] at hc
    split at hc <;> (try (cases hc; done))
    rename_i f' cargs tys ho
    simp only [Bool.and_eq_true, decide_eq_true_eq] at hc
    obtain ⟨⟨rfl, hargs⟩, hc⟩ := hc
    split at hc <;> (try (cases hc; done))
    rename_i fn hf
    simp only [Bool.and_eq_true, decide_eq_true_eq] at hc
    unfold Oper.wp
    rw [exec_call ho hf hc.1 hc.2]
    simp only [wpK, wpCall] at hw
    show Calls P f' (cargs.map a.eval) w _
    split at hw
    · -- all closed
      split at hw <;> (try (exact hw.elim))
      rename_i cs hcs
      obtain ⟨r, hC, hK⟩ := hw
      obtain ⟨hl, hV⟩ := evcs_V h hargs hcs
      refine (hC w _ _ _ (cargs.map a.eval) (by simpa using hl) (sim_initC h (by simpa using hl) (fun i h1 h2 => by have := hV i (by simpa using h1) h2; simpa using this))).mono ?_
      rintro e w' ⟨v, β', rfl, hS, _⟩
      obtain ⟨hS', hVr⟩ := back_C h hS
      exact hnext _ _ v _ (hS'.putO o.dst (by simpa using hd) (.c r) v hVr) (by rw [hdst]; exact hK)
    · -- the first one handed over, or lent
      rename_i x l
      obtain ⟨cl⟩ := cargs
      cases cl with
      | nil => cases hargs
      | cons cx cl =>
      simp only [chkPOs, Bool.and_eq_true] at hargs
      have hargv : (⟨cx :: cl⟩ : Array Operand).map a.eval = (a.eval cx :: cl.map a.eval).toArray := by simp
      rw [hargv]
      have hR := ev_R h hargs.1
      split at hw <;> (try (exact hw.elim))
      · rename_i d ver off len cs hx hcs
        rw [hx] at hR
        obtain ⟨hl, hV⟩ := evcs_V h hargs.2 hcs
        split at hw <;> (try (exact hw.elim))
        rename_i v sz es hb
        obtain ⟨⟨rfl, rfl, hlen⟩, r, hrd, hC, hK⟩ := hw
        have hown : (s.bx d).st.owned = true := by rw [hb]; rfl
        have hB := h.boxes d
        rw [hb] at hB
        have hH := hdr_of hR hb hlen hB
        have hinit := sim_init1 h (d0 := d) (av := .own sz es) (by rw [hb]; rfl) hown (v0 := a.eval cx) (vs := cl.map a.eval) (by simpa using hl) (fun i h1 h2 => by have := hV i (by simpa using h1) h2; simpa using this) (by
          refine ⟨⟨Nat.le_refl _, hH.one⟩, fun _ sz2 es2 hs2 => ⟨rfl, ?_⟩⟩
          have : (initPS (AV.own sz es :: List.map AV.c cs)).bx 0 = ⟨0, .sl sz es⟩ := rfl
          rw [this] at hs2
          cases hs2
          simp only [if_true]
          rcases hH with ⟨h1, h2, h3⟩ | ⟨b, cap, h1, h2, h3, h4⟩
          · exact .inl ⟨h1, h2, by rw [h3]; rfl⟩
          · exact .inr ⟨b, cap, h1, h2, h3, h4⟩)
        refine (hC w _ _ _ _ (by simp; omega) hinit).mono ?_
        rintro e w' ⟨v', β', rfl, hS, _⟩
        cases r with
        | c r =>
          obtain ⟨hS', hVr⟩ := back_ownC h hb hS
          exact hnext _ _ v' _ (hS'.putO o.dst hd (.c r) v' hVr) (by rw [hdst]; exact hK)
        | own sz' zs =>
          cases hpd : pd with
          | none =>
            rw [hpd] at hrd
            have := hrd _ _ rfl
            cases this
          | some e =>
            rw [hpd] at hdst hK
            obtain ⟨β2, hS'⟩ := back_ownO h hb hS (hd e hdst)
            exact hnext β2 _ v' _ (by rw [hdst]; exact hS') hK
      · rename_i d ver off cs hx hcs
        rw [hx] at hR
        obtain ⟨hl, hV⟩ := evcs_V h hargs.2 hcs
        split at hw <;> (try (exact hw.elim))
        rename_i v c0 hb
        obtain ⟨⟨rfl, rfl⟩, r, c1, hC, hK⟩ := hw
        have hown : (s.bx d).st.owned = true := by rw [hb]; rfl
        obtain ⟨b, base, hβ, he⟩ := hR.2 (by rw [hb]) (by rw [hb]; rfl)
        have hinit := sim_init1 h (d0 := d) (av := .io c0) (by rw [hb]; rfl) hown (v0 := a.eval cx) (vs := cl.map a.eval) (by simpa using hl) (fun i h1 h2 => by have := hV i (by simpa using h1) h2; simpa using this)
          ⟨⟨Nat.le_refl _, hR.1.2⟩, fun _ hs2 => ⟨b, base, by simpa using hβ, by simpa using he⟩⟩
        refine (hC w _ _ _ _ (by simp; omega) hinit).mono ?_
        rintro e w' ⟨v', β', rfl, hS, hβ'⟩
        have hβ0 : β' 0 = β d := by have := hβ' 0 c0 rfl; simpa using this
        obtain ⟨hS', hVr⟩ := back_io h hb hS hβ0
        exact hnext _ _ v' _ (hS'.putO o.dst hd (.c r) v' hVr) (by rw [hdst]; exact hK)
    · exact hw.elim
  all_goals (simp only [wpK] at hw; exact plain _ hc hw)
end
end Go.Pl
/-
  A STATEMENT WHOSE ORDER IS OPEN: its plain steps, in whatever order its edges let, come to the same. My own work.
-/
namespace Go.Pl
open Go
set_option linter.unusedVariables false
def reads (p : POp) : List Nat := opReads p.k ++ (match p.g with | some (g, _) => [g] | none => [])
def conf : Cl → Cl → Bool
  | .mw, .mr | .mw, .mw | .mr, .mw => true
  | .x, .pure | .pure, .x => false
  | .x, _ | _, .x => true
  | _, _ => false
def apart : Option Nat → Option Nat → Bool
  | some a, some b => a != b
  | _, _ => false
def okPair (p : POp) (bp : Option Nat) (q : POp) (bq : Option Nat) : Bool :=
  (match p.dst with | some d => !(reads q).contains d && decide (q.dst ≠ some d) | none => true) && (match q.dst with | some d => !(reads p).contains d | none => true) && (!conf (cls p.k) (cls q.k) || apart bp bq)
structure LocG (C : CallP) (p : POp) (s s' : PS) (v : PV) (wb : Nat → Option Box) (act : Bool) : Prop where
  eq : s' = upd p.dst v wb s
  again : ∀ u, (∀ t ∈ reads p, u.t t = s.t t) → (act = true → AgB p.k p.dst s u) → wpG C p u (· = upd p.dst v wb u)
  wb1 : act = true → Wb p.k p.dst s wb
  wb0 : act = false → wb = nob
  live : act = true → ∀ e ver, ref p.k s = some (e, ver) → cls p.k ≠ .pure → (s.bx e).ver = ver ∧ (s.bx e).st ≠ .dead
theorem locG {C : CallP} {p : POp} {s : PS} {K : PS → Prop} (hst : (∃ n x y av, p.k = .store n x y av) → p.dst = none) (h : wpG C p s K) : ∃ s' v wb act, LocG C p s s' v wb act ∧ K s' := by
  obtain ⟨dst, k, g⟩ := p
  have hk : wpK C ⟨dst, k, none⟩ s K → ∃ s' v wb, LocK C dst k s s' v wb ∧ K s' := by
    intro h
    cases k
    case call m f l =>
      simp only [wpK] at h
      obtain ⟨s', ⟨v, wb, hl⟩, hK⟩ := loc_call h
      exact ⟨s', v, wb, hl, hK⟩
    all_goals
      simp only [wpK] at h
      split at h
      · rename_i s' hs
        obtain ⟨v, wb, hl⟩ := loc_step (C := C) (by intros; simp) hst hs
        exact ⟨s', v, wb, hl, h⟩
      · exact h.elim
  have wK : ∀ (gg : Option (Nat × Bool)) (u : PS) (K : PS → Prop), wpK C ⟨dst, k, gg⟩ u K = wpK C ⟨dst, k, none⟩ u K := by
    intro gg u K; cases k <;> rfl
  cases g with
  | none =>
    simp only [wpG] at h
    obtain ⟨s', v, wb, hl, hK⟩ := hk h
    refine ⟨s', v, wb, true, ⟨hl.eq, fun u hu hab => ?_, fun _ => hl.wb, fun h => (by cases h), fun _ => hl.live⟩, hK⟩
    simp only [wpG]
    exact hl.again u (fun t ht => hu t (by simp [reads, ht])) (hab rfl)
  | some gw =>
    obtain ⟨g, w⟩ := gw
    simp only [wpG] at h
    split at h
    · rename_i b hb
      by_cases hbw : b = w
      · have h1 := h.1 hbw
        rw [wK] at h1
        obtain ⟨s', v, wb, hl, hK⟩ := hk h1
        refine ⟨s', v, wb, true, ⟨hl.eq, fun u hu hab => ?_, fun _ => hl.wb, fun h => (by cases h), fun _ => hl.live⟩, hK⟩
        have hg : u.t g = .c (.bool b) := by rw [hu g (by simp [reads])]; exact hb
        simp only [wpG, hg]
        refine ⟨fun _ => ?_, fun hne => absurd hbw hne⟩
        rw [wK]
        exact hl.again u (fun t ht => hu t (by simp [reads, ht])) (hab rfl)
      · refine ⟨_, .undef, nob, false, ⟨by rw [upd_putO], fun u hu _ => ?_, fun h => (by cases h), fun _ => rfl, fun h => (by cases h)⟩, h.2 hbw⟩
        have hg : u.t g = .c (.bool b) := by rw [hu g (by simp [reads])]; exact hb
        simp only [wpG, hg]
        exact ⟨fun e => absurd e hbw, fun _ => by rw [upd_putO]⟩
    · rename_i hb
      refine ⟨_, .undef, nob, false, ⟨by rw [upd_putO], fun u hu _ => ?_, fun h => (by cases h), fun _ => rfl, fun h => (by cases h)⟩, h⟩
      have hg : u.t g = .undef := by rw [hu g (by simp [reads])]; exact hb
      simp only [wpG, hg]
      rw [upd_putO]
    · exact h.elim
def WF (s : PS) : Prop := ∀ i e ver, refOf (s.t i) = some (e, ver) → ver ≤ (s.bx e).ver
theorem Sim.wf {O : Nat → Prop} {A0 : Lent} {w0 w : World} {β : Bt} {s : PS} {tm : Nat → Value} (h : Sim O w0 A0 β s tm w) : WF s := by
  intro i e ver hr
  have := h.temps i
  cases hp : s.t i <;> rw [hp] at this hr <;> simp only [refOf, Option.some.injEq, Prod.mk.injEq, reduceCtorEq] at hr
  all_goals (obtain ⟨rfl, rfl⟩ := hr; first | exact this.1.1 | exact this.1)
theorem kindEq.symm {b b' : Box} (h : kindEq b b') : kindEq b' b := by
  obtain ⟨v, st⟩ := b
  obtain ⟨v', st'⟩ := b'
  obtain ⟨h1, h2⟩ := h
  refine ⟨h1.symm, ?_⟩
  cases st <;> cases st' <;> simp_all
theorem ref_key {k : PK} {s : PS} {e ver : Nat} (h : ref k s = some (e, ver)) : cls k ≠ .pure := by
  intro hc
  cases k <;> simp only [ref, key, cls, reduceCtorEq, Option.bind_none, Option.bind_some] at h hc
  rename_i m f l
  cases m <;> cases l <;> simp [key] at h hc
theorem ref_agree {k : PK} {s u : PS} (h : ∀ t ∈ opReads k, u.t t = s.t t) : ref k u = ref k s := by
  unfold ref
  cases hk : key k with
  | none => rfl
  | some x =>
    have hx : x ∈ opds k := by
      cases k <;> simp only [key, reduceCtorEq, Option.some.injEq] at hk <;> (try (subst hk; simp [opds]))
      rename_i m f l
      cases m <;> cases l <;> simp at hk
      subst hk; simp [opds]
    simp only [Option.bind_some, ev_agree h x hx]
theorem ref_wf {k : PK} {s : PS} (hw : WF s) {e ver : Nat} (h : ref k s = some (e, ver)) : ver ≤ (s.bx e).ver := by
  unfold ref at h
  cases hk : key k with
  | none => rw [hk] at h; cases h
  | some x =>
    rw [hk] at h
    cases x with
    | t i => exact hw i e ver h
    | k v => cases h
theorem upd_t (dst : Option Nat) (v : PV) (wb : Nat → Option Box) (u : PS) {t : Nat} (h : dst ≠ some t) : (upd dst v wb u).t t = u.t t := by
  simp only [upd]; rw [if_neg (fun e => h e.symm)]
theorem swap {C : CallP} {p q : POp} {bp bq : Option Nat} {s : PS} {K : PS → Prop} (hp : (∃ n x y av, p.k = .store n x y av) → p.dst = none) (hq : (∃ n x y av, q.k = .store n x y av) → q.dst = none) (hok : okPair p bp q bq = true) (hw : WF s) (hcp : clm p bp s)
    (dp : isNew p.k = true → ∀ d, p.dst = some d → (s.bx d).st = .dead) (dq : isNew q.k = true → ∀ d, q.dst = some d → (s.bx d).st = .dead)
    (h : wpG C p s fun s1 => clm q bq s1 ∧ wpG C q s1 K) : clm q bq s ∧ wpG C q s fun s1 => clm p bp s1 ∧ wpG C p s1 K := by
  obtain ⟨s1, v1, wb1, a1, L1, hcq, h1⟩ := locG hp h
  obtain ⟨s2, v2, wb2, a2, L2, hK⟩ := locG hq h1
  simp only [okPair, Bool.and_eq_true, Bool.or_eq_true, Bool.not_eq_true'] at hok
  obtain ⟨⟨hd1, hd2⟩, hok⟩ := hok
  have noconf : ∀ e v v', ref p.k s = some (e, v) → ref q.k s1 = some (e, v') → conf (cls p.k) (cls q.k) = false := by
    intro e v v' h1 h2
    rcases hok with h | h
    · exact h
    · exfalso
      cases bp with
      | none => simp [apart] at h
      | some a =>
        cases bq with
        | none => simp [apart] at h
        | some b =>
          have e1 := hcp a rfl e v h1
          have e2 := hcq b rfl e v' h2
          subst e1; subst e2
          simp [apart] at h
  have n1 : ∀ t ∈ reads q, p.dst ≠ some t := by
    intro t ht e
    rw [e] at hd1
    simp only [Bool.and_eq_true, Bool.not_eq_true', List.contains_eq_mem, decide_eq_false_iff_not] at hd1
    exact hd1.1 ht
  have n2 : ∀ t ∈ reads p, q.dst ≠ some t := by
    intro t ht e
    rw [e] at hd2
    simp only [Bool.not_eq_true', List.contains_eq_mem, decide_eq_false_iff_not] at hd2
    exact hd2 ht
  have n3 : ∀ d, p.dst = some d → q.dst ≠ some d := by
    intro d e
    rw [e] at hd1
    simp only [Bool.and_eq_true, decide_eq_true_eq] at hd1
    exact hd1.2
  have hs1 := L1.eq
  have bx1 : ∀ i, s1.bx i = (wb1 i).getD (s.bx i) := fun i => by rw [hs1]; rfl
  have agq : ∀ t ∈ reads q, s.t t = s1.t t := fun t ht => by rw [hs1, upd_t _ _ _ _ (n1 t ht)]
  have refq : ref q.k s1 = ref q.k s := (ref_agree (fun t ht => agq t (by simp [reads, ht]))).symm
  -- what 'p' writes, against what 'q' looks into
  have hit1 : ∀ i b, wb1 i = some b → a1 = true ∧ ((cls p.k = .mw ∧ (∃ ver, ref p.k s = some (i, ver)) ∧ kindEq (s.bx i) b) ∨ (cls p.k = .x ∧ ∃ ver, ref p.k s = some (i, ver)) ∨ (isNew p.k = true ∧ p.dst = some i ∧ (s.bx i).ver < b.ver)) := by
    intro i b hi
    cases ha : a1 with
    | false => rw [L1.wb0 ha] at hi; cases hi
    | true => exact ⟨rfl, L1.wb1 ha i b hi⟩
  have hit2 : ∀ i b, wb2 i = some b → a2 = true ∧ ((cls q.k = .mw ∧ (∃ ver, ref q.k s1 = some (i, ver)) ∧ kindEq (s1.bx i) b) ∨ (cls q.k = .x ∧ ∃ ver, ref q.k s1 = some (i, ver)) ∨ (isNew q.k = true ∧ q.dst = some i ∧ (s1.bx i).ver < b.ver)) := by
    intro i b hi
    cases ha : a2 with
    | false => rw [L2.wb0 ha] at hi; cases hi
    | true => exact ⟨rfl, L2.wb1 ha i b hi⟩
  -- 'q' names no box that 'p' makes
  have noNew1 : a2 = true → ∀ e ver, ref q.k s1 = some (e, ver) → isNew p.k = true → p.dst ≠ some e := by
    intro ha2 e ver hr hn hde
    have hl := L2.live ha2 e ver hr (ref_key hr)
    cases hw1 : wb1 e with
    | none =>
      have : s1.bx e = s.bx e := by rw [bx1, hw1]; rfl
      rw [this, dp hn e hde] at hl
      exact hl.2 rfl
    | some b =>
      have hb1 : s1.bx e = b := by rw [bx1, hw1]; rfl
      obtain ⟨ha1, hc⟩ := hit1 e b hw1
      rcases hc with ⟨_, ⟨ver', hr'⟩, _⟩ | ⟨_, ver', hr'⟩ | ⟨_, _, hlt⟩
      · exact (L1.live ha1 e ver' hr' (ref_key hr')).2 (dp hn e hde)
      · exact (L1.live ha1 e ver' hr' (ref_key hr')).2 (dp hn e hde)
      · have := ref_wf hw (refq ▸ hr)
        rw [hb1] at hl
        omega
  have noNew2 : a1 = true → ∀ e ver, ref p.k s = some (e, ver) → isNew q.k = true → q.dst ≠ some e :=
    fun ha1 e ver hr hn hde => (L1.live ha1 e ver hr (ref_key hr)).2 (dq hn e hde)
  -- 'q' from 's'
  have Q : wpG C q s (· = upd q.dst v2 wb2 s) := by
    refine L2.again s agq fun ha2 => ⟨fun e ver hr => ?_, fun hn d hde => ?_⟩
    · cases hw1 : wb1 e with
      | none =>
        have : s1.bx e = s.bx e := by rw [bx1, hw1]; rfl
        exact ⟨fun _ => by rw [this]; exact kindEq.refl _, fun _ => this.symm⟩
      | some b =>
        have hb1 : s1.bx e = b := by rw [bx1, hw1]; rfl
        obtain ⟨ha1, hc⟩ := hit1 e b hw1
        rcases hc with ⟨hcl, hrr, hke⟩ | ⟨hcl, hrr⟩ | ⟨hn, hde, _⟩
        · obtain ⟨vr, hrr⟩ := hrr
          have hconf := noconf e vr ver hrr hr
          rw [hcl] at hconf
          have hkr : cls q.k = .kr := by
            have := ref_key hr
            cases hq' : cls q.k <;> rw [hq'] at hconf this <;> first | rfl | (simp [conf] at hconf; done) | (exact absurd rfl this)
          exact ⟨fun _ => by rw [hb1]; exact hke.symm, fun h => absurd hkr h⟩
        · obtain ⟨vr, hrr⟩ := hrr
          have hconf := noconf e vr ver hrr hr
          rw [hcl] at hconf
          have := ref_key hr
          cases hq' : cls q.k <;> rw [hq'] at hconf this <;> first | (simp [conf] at hconf; done) | (exact absurd rfl this)
        · exact absurd hde (noNew1 ha2 e ver hr hn)
    · cases hw1 : wb1 d with
      | none => rw [bx1, hw1]; rfl
      | some b =>
        obtain ⟨ha1, hc⟩ := hit1 d b hw1
        rcases hc with ⟨_, ⟨ver', hr'⟩, _⟩ | ⟨_, ver', hr'⟩ | ⟨_, hde', _⟩
        · exact absurd hde (noNew2 ha1 d ver' hr' hn)
        · exact absurd hde (noNew2 ha1 d ver' hr' hn)
        · exact absurd hde (n3 d hde')
  -- 'p' behind it
  have bx2 : ∀ i, (upd q.dst v2 wb2 s).bx i = (wb2 i).getD (s.bx i) := fun i => rfl
  have agp : ∀ t ∈ reads p, (upd q.dst v2 wb2 s).t t = s.t t := fun t ht => upd_t _ _ _ _ (n2 t ht)
  have Pn : wpG C p (upd q.dst v2 wb2 s) (· = upd p.dst v1 wb1 (upd q.dst v2 wb2 s)) := by
    refine L1.again _ agp fun ha1 => ⟨fun e ver hr => ?_, fun hn d hde => ?_⟩
    · cases hw2 : wb2 e with
      | none => rw [bx2, hw2]; exact ⟨fun _ => kindEq.refl _, fun _ => rfl⟩
      | some b =>
        obtain ⟨ha2, hc⟩ := hit2 e b hw2
        rcases hc with ⟨hcl, hrr, hke⟩ | ⟨hcl, hrr⟩ | ⟨hn, hde, _⟩
        · obtain ⟨vr, hrr⟩ := hrr
          have hconf := noconf e ver vr hr hrr
          rw [hcl] at hconf
          have hkr : cls p.k = .kr := by
            have := ref_key hr
            cases hp' : cls p.k <;> rw [hp'] at hconf this <;> first | rfl | (simp [conf] at hconf; done) | (exact absurd rfl this)
          have hw1 : wb1 e = none := by
            cases hw1 : wb1 e with
            | none => rfl
            | some b' =>
              obtain ⟨_, hc'⟩ := hit1 e b' hw1
              rcases hc' with ⟨hcl', _, _⟩ | ⟨hcl', _⟩ | ⟨hn', hde', _⟩
              · rw [hkr] at hcl'; cases hcl'
              · rw [hkr] at hcl'; cases hcl'
              · exact absurd hn' (by cases hpk : p.k <;> rw [hpk] at hkr <;> simp [cls, isNew] at hkr ⊢ <;> (rename_i m _ _; cases m <;> simp [cls] at hkr))
          have e1 : s1.bx e = s.bx e := by rw [bx1, hw1]; rfl
          rw [e1] at hke
          exact ⟨fun _ => by rw [bx2, hw2]; exact hke, fun h => absurd hkr h⟩
        · obtain ⟨vr, hrr⟩ := hrr
          have hconf := noconf e ver vr hr hrr
          rw [hcl] at hconf
          have := ref_key hr
          cases hp' : cls p.k <;> rw [hp'] at hconf this <;> first | (simp [conf] at hconf; done) | (exact absurd rfl this)
        · exact absurd hde (noNew2 ha1 e ver hr hn)
    · cases hw2 : wb2 d with
      | none => rw [bx2, hw2]; rfl
      | some b =>
        obtain ⟨ha2, hc⟩ := hit2 d b hw2
        rcases hc with ⟨_, ⟨ver', hr'⟩, _⟩ | ⟨_, ver', hr'⟩ | ⟨_, hde', _⟩
        · exact absurd hde (noNew1 ha2 d ver' hr' hn)
        · exact absurd hde (noNew1 ha2 d ver' hr' hn)
        · exact absurd hde' (n3 d hde)
  -- the two ends are one
  have disj : ∀ i, wb1 i = none ∨ wb2 i = none := by
    intro i
    cases hw1 : wb1 i with
    | none => exact .inl rfl
    | some b1 =>
      cases hw2 : wb2 i with
      | none => exact .inr rfl
      | some b2 =>
        exfalso
        obtain ⟨ha1, hc1⟩ := hit1 i b1 hw1
        obtain ⟨ha2, hc2⟩ := hit2 i b2 hw2
        have two : ∀ {v v'}, ref p.k s = some (i, v) → ref q.k s1 = some (i, v') → (cls p.k = .mw ∨ cls p.k = .x) → (cls q.k = .mw ∨ cls q.k = .x) → False := by
          intro v v' r1 r2
          have hconf := noconf i v v' r1 r2
          rintro (h1 | h1) (h2 | h2) <;> rw [h1, h2] at hconf <;> simp [conf] at hconf
        rcases hc1 with ⟨hcl1, ⟨ver1, hr1⟩, _⟩ | ⟨hcl1, ver1, hr1⟩ | ⟨hn1, hde1, _⟩ <;> rcases hc2 with ⟨hcl2, ⟨ver2, hr2⟩, _⟩ | ⟨hcl2, ver2, hr2⟩ | ⟨hn2, hde2, _⟩
        · exact two hr1 hr2 (.inl hcl1) (.inl hcl2)
        · exact two hr1 hr2 (.inl hcl1) (.inr hcl2)
        · exact noNew2 ha1 i ver1 hr1 hn2 hde2
        · exact two hr1 hr2 (.inr hcl1) (.inl hcl2)
        · exact two hr1 hr2 (.inr hcl1) (.inr hcl2)
        · exact noNew2 ha1 i ver1 hr1 hn2 hde2
        · exact noNew1 ha2 i ver2 hr2 hn1 hde1
        · exact noNew1 ha2 i ver2 hr2 hn1 hde1
        · exact n3 i hde1 hde2
  have fin : upd p.dst v1 wb1 (upd q.dst v2 wb2 s) = s2 := by
    rw [L2.eq, hs1]
    simp only [upd, PS.mk.injEq]
    refine ⟨?_, ?_⟩
    · funext i
      by_cases e1 : some i = p.dst
      · have e2 : ¬ some i = q.dst := fun e => n3 i e1.symm e.symm
        rw [if_pos e1, if_neg e2, if_pos e1]
      · rw [if_neg e1]
        by_cases e2 : some i = q.dst
        · rw [if_pos e2, if_pos e2]
        · rw [if_neg e2, if_neg e2, if_neg e1]
    · funext i
      rcases disj i with h0 | h0 <;> rw [h0]
      · cases wb2 i <;> rfl
      · cases wb1 i <;> rfl
  refine ⟨fun c hc e ver hr => hcq c hc e ver (refq.trans hr), wpG_mono (fun u hu => ?_) Q⟩
  subst hu
  refine ⟨fun c hc e ver hr => hcp c hc e ver ((ref_agree (fun t ht => agp t (by simp [reads, ht]))).symm.trans hr), wpG_mono (fun u hu => ?_) Pn⟩
  subst hu
  rw [fin]
  exact hK
end Go.Pl
/-
  REGIONS: in the text's order, and in whatever order. My own work.
-/
namespace Go.Pl
open Go
set_option linter.unusedVariables false
set_option linter.unusedSimpArgs false
def storeOk (p : POp) : Bool := match p.k with
  | .store _ _ _ _ => p.dst.isNone
  | _ => true
theorem storeOk_spec {p : POp} (h : storeOk p = true) : (∃ n x y av, p.k = .store n x y av) → p.dst = none := by
  rintro ⟨n, x, y, av, hk⟩
  simp only [storeOk, hk] at h
  simpa using h
section
variable {O : Nat → Prop} {A0 : Lent} {w0 w : World} {β : Bt} {s : PS} {a : Act} {P : Program}
theorem op_wpOp {ops : Array Oper} {i : Nat} {o : Oper} {p : POp} {n : Nat} (hi : ops[i]? = some o) (hc : chkP P n ops o p = true) (hn : a.tmps.size = n) (h : Sim O w0 A0 β s (tmf a) w) {K : PS → Prop} (hw : wpG (PCallG P) p s K)
    {next : Act → World → Prop} {Q : Exit → Act → World → Prop}
    (hnext : ∀ β' s' a' w', Sim O w0 A0 β' s' (tmf a') w' → a'.tmps.size = n → a'.defers = a.defers → K s' → next a' w') : wpOp P ops Q i next a w := by
  simp only [chkP, Bool.and_eq_true, decide_eq_true_eq] at hc
  obtain ⟨⟨⟨hdst, hdn⟩, hg⟩, hk⟩ := hc
  have hd : dstOk o.dst a.tmps.size := by
    intro d e
    rw [e] at hdn
    rw [hn]
    simpa using hdn
  have run : wpK (PCallG P) p s K → o.wp P a w next Q := fun hw => op_wp (ops := ops) (n := n) hk hdst hd h hw fun β' s' v w' hS hK => hnext β' s' _ w' hS (by rw [put_size]; exact hn) (put_defers _ _ _) hK
  have skip : K (s.putO p.dst .undef) → next (a.put o.dst undef) w := fun hK => hnext β _ _ w (h.putO o.dst hd .undef undef rfl) (by rw [put_size]; exact hn) (put_defers _ _ _) (by rw [hdst]; exact hK)
  unfold wpOp
  simp only [hi]
  unfold wpG at hw
  cases hog : o.guard with
  | none =>
    have hpg : p.g = none := by
      cases hpg : p.g with
      | none => rfl
      | some x => rw [hog, hpg] at hg; cases hg
    rw [hpg] at hw
    have : Region.wanted o (yielded ops a.tmps) = true := by simp [Region.wanted, hog]
    rw [if_pos this]
    exact .inl (run hw)
  | some jw =>
    obtain ⟨j, want⟩ := jw
    cases hpg : p.g with
    | none => rw [hog, hpg] at hg; cases hg
    | some tw =>
      obtain ⟨t, want'⟩ := tw
      rw [hog, hpg] at hg
      simp only [chkG, Bool.and_eq_true, beq_iff_eq, decide_eq_true_eq] at hg
      obtain ⟨rfl, hjt⟩ := hg
      rw [hpg] at hw
      simp only at hw
      have hT := h.temps t
      split at hw
      · rename_i b hb
        rw [hb] at hT
        have hT := V.bool_inv hT
        have hget : a.tmps[t]? = some (.bool b) := by
          simp only [tmf, Array.getD_eq_getD_getElem?] at hT
          cases hq : a.tmps[t]? with
          | none => rw [hq] at hT; simp [undef] at hT
          | some v => rw [hq] at hT; simp at hT; rw [hT]
        have hy : yielded ops a.tmps j = some b := by simp only [yielded, hjt, Option.bind_some, hget]
        have hwa : Region.wanted o (yielded ops a.tmps) = (b == want) := by simp [Region.wanted, hog, hy]
        rw [hwa]
        by_cases hbw : b = want
        · rw [if_pos (by simpa using hbw)]
          exact .inl (run (hw.1 hbw))
        · rw [if_neg (by simpa using hbw)]
          exact skip (hw.2 hbw)
      · rename_i hb
        rw [hb] at hT
        have hT : tmf a t = undef := hT
        have hy : yielded ops a.tmps j = none := by
          simp only [yielded, hjt, Option.bind_some]
          simp only [tmf, Array.getD_eq_getD_getElem?] at hT
          cases hq : a.tmps[t]? with
          | none => rfl
          | some v => rw [hq] at hT; simp at hT; subst hT; rfl
        have hwa : Region.wanted o (yielded ops a.tmps) = false := by simp [Region.wanted, hog, hy]
        rw [hwa, if_neg (by simp)]
        exact skip hw
      · exact hw.elim
theorem wp_ex {o : Oper} {next : Act → World → Prop} (h : o.wp P a w next fun _ _ _ => False) : ∃ a' w', next a' w' := by
  unfold Oper.wp Oper.upon at h
  split at h
  · exact ⟨_, _, h⟩
  · exact ⟨_, _, h⟩
  · exact ⟨_, _, h⟩
  · obtain ⟨e, w', fr, hR, _⟩ := h []
    cases e with
    | returned v => exact ⟨_, _, hR⟩
    | panicked c => exact hR.elim
    | outgrown => exact (hR : LetsOut _).elim fun _ h => h.elim fun _ h => h.elim
  · obtain ⟨v, w', hR, _⟩ := h default []
    exact ⟨_, _, hR⟩
  · exact h.elim
  · exact h.elim
theorem wpOp_ex {ops : Array Oper} {i : Nat} {o : Oper} (hi : ops[i]? = some o) {next : Act → World → Prop} (h : wpOp P ops (fun _ _ _ => False) i next a w) : ∃ a' w', next a' w' := by
  unfold wpOp at h
  simp only [hi] at h
  split at h
  · rcases h with h | ⟨_, _, _, h⟩
    · exact wp_ex h
    · exact h.elim
  · exact ⟨_, _, h⟩
end
/-! ### In the text's order -/
def chkOps (P : Program) (n : Nat) (ops : Array Oper) : List Oper → List POp → Bool
  | [], [] => true
  | o :: l, p :: m => chkP P n ops o p && chkOps P n ops l m
  | _, _ => false
theorem chkOps_get {P : Program} {n : Nat} {ops : Array Oper} : ∀ {l : List Oper} {m : List POp}, chkOps P n ops l m = true → l.length = m.length ∧ ∀ (i : Nat) (h1 : i < l.length) (h2 : i < m.length), chkP P n ops l[i] m[i] = true
  | [], [], _ => ⟨rfl, fun i h => by simp at h⟩
  | [], _ :: _, h => by cases h
  | _ :: _, [], h => by cases h
  | o :: l, p :: m, h => by
    simp only [chkOps, Bool.and_eq_true] at h
    obtain ⟨h1, h2⟩ := chkOps_get h.2
    refine ⟨by simp [h1], fun i hi hj => ?_⟩
    cases i with
    | zero => exact h.1
    | succ i => exact h2 i (by simpa using hi) (by simpa using hj)
section
variable {O : Nat → Prop} {A0 : Lent} {w0 : World} {P : Program} {ops : Array Oper} {pl : List POp} {n : Nat}
theorem seq_ops (hc : chkOps P n ops ops.toList pl = true) {K : PS → Prop} {Q : Exit → Act → World → Prop} (hQ : ∀ β s a w, Sim O w0 A0 β s (tmf a) w → a.tmps.size = n → a.defers = [] → K s → Q .normal a w) :
    ∀ (m k : Nat), k + m = pl.length → ∀ (β : Bt) (s : PS) (a : Act) (w : World), Sim O w0 A0 β s (tmf a) w → a.tmps.size = n → a.defers = [] → wpL (PCallG P) (pl.drop k) s K → wpOps P ops Q (List.range' k m) a w
  | 0, k, hk, β, s, a, w, h, hn, hd, hw => by
    rw [List.drop_of_length_le (by omega)] at hw
    exact hQ β s a w h hn hd hw
  | m + 1, k, hk, β, s, a, w, h, hn, hd, hw => by
    obtain ⟨hl, hg⟩ := chkOps_get hc
    have hkl : k < pl.length := by omega
    have hko : k < ops.toList.length := by omega
    rw [List.drop_eq_getElem_cons hkl] at hw
    rw [List.range'_succ, wpOps_cons]
    have hi : ops[k]? = some ops.toList[k] := by simp
    refine op_wpOp hi (hg k hko hkl) hn h hw fun β' s' a' w' hS hn' hd' hK => ?_
    exact seq_ops hc hQ m (k + 1) (by omega) β' s' a' w' hS hn' (hd'.trans hd) hK
/-! ### In whatever order -/
def okNew (p q : POp) : Bool := !(isNew p.k && isNew q.k && p.dst.isSome && decide (p.dst = q.dst))
def dmask (acc : List Nat) (o : Oper) : Nat := o.after.toList.foldl (fun m e => if Region.binds .any e then m ||| (2 ^ e.on ||| acc.getD e.on 0) else m) 0
def masks : List Oper → List Nat → List Nat
  | [], acc => acc
  | o :: l, acc => masks l (acc ++ [dmask acc o])
inductive Ahead (ops : Array Oper) : Nat → Nat → Prop where
  | edge (i j : Nat) (o : Oper) (e : Edge) (ho : ops[j]? = some o) (he : e ∈ o.after.toList) (hb : Region.binds .any e = true) (hi : e.on = i) : Ahead ops i j
  | trans (i j k : Nat) (h : Ahead ops i j) (h' : Ahead ops j k) : Ahead ops i k
theorem dmask_sound {acc : List Nat} {o : Oper} {j : Nat} (ho : ops[j]? = some o) (hacc : ∀ k i, (acc.getD k 0).testBit i = true → Ahead ops i k) {i : Nat} (h : (dmask acc o).testBit i = true) : Ahead ops i j := by
  unfold dmask at h
  have key : ∀ (l : List Edge) (m : Nat), (∀ e ∈ l, e ∈ o.after.toList) → (l.foldl (fun m e => if Region.binds .any e then m ||| (2 ^ e.on ||| acc.getD e.on 0) else m) m).testBit i = true → m.testBit i = true ∨ Ahead ops i j := by
    intro l
    induction l with
    | nil => intro m _ h; exact .inl h
    | cons e l ih =>
      intro m hl h
      simp only [List.foldl_cons] at h
      rcases ih _ (fun x hx => hl x (by simp [hx])) h with h | h
      · split at h
        · rename_i hb
          simp only [Nat.testBit_or, Bool.or_eq_true] at h
          rcases h with h | h | h
          · exact .inl h
          · rw [Nat.testBit_two_pow] at h
            have : e.on = i := by simpa using h
            exact .inr (.edge i j o e ho (hl e (by simp)) hb this)
          · exact .inr (.trans i e.on j (hacc _ _ h) (.edge e.on j o e ho (hl e (by simp)) hb rfl))
        · exact .inl h
      · exact .inr h
  rcases key o.after.toList 0 (fun e he => he) h with h | h
  · simp at h
  · exact h
theorem masks_sound : ∀ (l : List Oper) (acc : List Nat), (∀ k (hk : k < l.length), ops[acc.length + k]? = some l[k]) → (∀ k i, (acc.getD k 0).testBit i = true → Ahead ops i k) →
    ∀ k i, ((masks l acc).getD k 0).testBit i = true → Ahead ops i k
  | [], acc, _, hacc => hacc
  | o :: l, acc, hl, hacc => by
    refine masks_sound l (acc ++ [dmask acc o]) (fun k hk => ?_) (fun k i h => ?_)
    · have := hl (k + 1) (by simp; omega)
      simp only [List.length_append, List.length_singleton]
      rw [show acc.length + 1 + k = acc.length + (k + 1) by omega, this]
      rfl
    · rw [List.getD_eq_getElem?_getD] at h
      by_cases hk : k < acc.length
      · rw [List.getElem?_append_left hk, ← List.getD_eq_getElem?_getD] at h; exact hacc k i h
      · rw [List.getElem?_append_right (by omega)] at h
        by_cases hk' : k = acc.length
        · subst hk'
          simp at h
          exact dmask_sound (hl 0 (by simp)) hacc h
        · rw [List.getElem?_eq_none (by simp; omega)] at h
          simp at h
def chkPairs (ms : List Nat) (pl : List POp) (on : List (Nat × Nat)) : Bool :=
  (List.range pl.length).all fun j => (List.range j).all fun i => okNew (pl.getD i default) (pl.getD j default) && ((ms.getD j 0).testBit i || okPair (pl.getD i default) (on.lookup i) (pl.getD j default) (on.lookup j))
def edgesIn (md : Region.Mode) (o : Oper) (done : List Nat) : Bool := o.after.all fun e => !Region.binds md e || done.contains e.on
def chkTopo (md : Region.Mode) (ops : Array Oper) : List Nat → List Nat → Bool
  | [], done => (List.range ops.size).all done.contains
  | i :: l, done => (match ops[i]? with | some o => edgesIn md o done | none => false) && chkTopo md ops l (i :: done)
def chkDraw (P : Program) (n : Nat) (ops : Array Oper) (pl : List POp) (on : List (Nat × Nat)) : Bool :=
  chkOps P n ops ops.toList pl && pl.all storeOk && chkPairs (masks ops.toList []) pl on && chkTopo .any ops (List.range ops.size) [] &&
    (!Region.departs ops || (chkTopo .text ops (List.range ops.size) [] && chkTopo .gc ops (Region.linearise .gc ops 0) []))
theorem topo_ready (md : Region.Mode) (listed : Array Bool) (hsz : listed.size = ops.size) : ∀ (l done : List Nat), chkTopo md ops l done = true → (∀ i ∈ done, listed.getD i false = true) →
    (∃ i, i < ops.size ∧ listed.getD i true = false) → Region.ready md ops listed ≠ []
  | [], done, h, hd, ⟨i, hi, hf⟩ => by
    simp only [chkTopo, List.all_eq_true, List.mem_range, List.contains_eq_mem, decide_eq_true_eq] at h
    have := hd i (h i hi)
    simp [hsz, hi] at hf this
    simp_all
  | i :: l, done, h, hd, hex => by
    simp only [chkTopo, Bool.and_eq_true] at h
    obtain ⟨h1, h2⟩ := h
    by_cases hl : listed.getD i false = true
    · refine topo_ready md listed hsz l (i :: done) h2 (fun k hk => ?_) hex
      rcases List.mem_cons.1 hk with rfl | hk
      · exact hl
      · exact hd k hk
    · intro hnil
      cases ho : ops[i]? with
      | none => rw [ho] at h1; cases h1
      | some o =>
        rw [ho] at h1
        have hi : i < ops.size := (Array.getElem?_eq_some_iff.1 ho).1
        have : i ∈ Region.ready md ops listed := by
          unfold Region.ready
          simp only [List.mem_filter, List.mem_range, Bool.and_eq_true, Bool.not_eq_true', ho, Option.map_some, Option.getD_some]
          refine ⟨hi, ?_, ?_⟩
          · have hi' : i < listed.size := by omega
            simp [hi'] at hl ⊢
            exact hl
          · simp only [edgesIn, Array.all_eq_true_iff_forall_mem, Bool.or_eq_true] at h1 ⊢
            intro e he
            rcases h1 e he with h | h
            · exact .inl h
            · exact .inr (hd _ (by simpa using h))
        rw [hnil] at this
        cases this
end
end Go.Pl
/-
  REGIONS IN WHATEVER ORDER: the theorem. My own work.
-/
namespace Go.Pl
open Go
set_option linter.unusedVariables false
set_option linter.unusedSimpArgs false
def wpR (C : CallP) (pl : List POp) (on : List (Nat × Nat)) : List Nat → PS → (PS → Prop) → Prop
  | [], s, K => K s
  | i :: r, s, K => clm (pl.getD i default) (on.lookup i) s ∧ wpG C (pl.getD i default) s fun s' => wpR C pl on r s' K
theorem wpR_of_wpLB {C : CallP} {pl : List POp} {on : List (Nat × Nat)} {K : PS → Prop} : ∀ (m k : Nat), k + m = pl.length → ∀ s, wpLB C on k (pl.drop k) s K → wpR C pl on (List.range' k m) s K
  | 0, k, hk, s, h => by rw [List.drop_of_length_le (by omega)] at h; exact h
  | m + 1, k, hk, s, h => by
    have hkl : k < pl.length := by omega
    rw [List.drop_eq_getElem_cons hkl] at h
    rw [List.range'_succ]
    have : pl.getD k default = pl[k] := by simp [hkl]
    simp only [wpR, this]
    exact ⟨h.1, wpG_mono (fun s h => wpR_of_wpLB m (k + 1) (by omega) s h) h.2⟩
theorem wpLB_of_wpL {C : CallP} {K : PS → Prop} : ∀ (l : List POp) (k : Nat) (s : PS), wpL C l s K → wpLB C [] k l s K
  | [], k, s, h => h
  | o :: l, k, s, h => ⟨fun c hc => (nomatch hc), wpG_mono (fun s h => wpLB_of_wpL l (k + 1) s h) h⟩
section
variable {O : Nat → Prop} {A0 : Lent} {w0 : World} {P : Program} {ops : Array Oper} {pl : List POp} {on : List (Nat × Nat)} {n : Nat}
def SimEx (O : Nat → Prop) (A0 : Lent) (w0 : World) (n : Nat) (s : PS) : Prop := ∃ β a w, Sim O w0 A0 β s (tmf a) w ∧ a.tmps.size = n ∧ a.defers = []
def DeadR (pl : List POp) (rem : List Nat) (s : PS) : Prop := ∀ i ∈ rem, isNew (pl.getD i default).k = true → ∀ d, (pl.getD i default).dst = some d → (s.bx d).st = .dead
structure Reg (P : Program) (n : Nat) (ops : Array Oper) (pl : List POp) (on : List (Nat × Nat)) : Prop where
  len : ops.size = pl.length
  chk : ∀ (i : Nat) (o : Oper), ops[i]? = some o → chkP P n ops o (pl.getD i default) = true
  store : ∀ i, i < pl.length → storeOk (pl.getD i default) = true
  new : ∀ i j, i < pl.length → j < pl.length → i ≠ j → okNew (pl.getD i default) (pl.getD j default) = true
  pair : ∀ i j, i < j → j < pl.length → Ahead ops i j ∨ okPair (pl.getD i default) (on.lookup i) (pl.getD j default) (on.lookup j) = true
theorem okNew_symm {p q : POp} (h : okNew p q = true) : okNew q p = true := by
  simp only [okNew, Bool.not_eq_true', Bool.and_eq_false_iff, decide_eq_false_iff_not] at h ⊢
  rcases h with ((h | h) | h) | h
  · exact .inl (.inl (.inr h))
  · exact .inl (.inl (.inl h))
  · by_cases e : p.dst = q.dst
    · exact .inl (.inr (by rw [← e]; exact h))
    · exact .inr fun e' => e e'.symm
  · exact .inr fun e' => h e'.symm
theorem Reg.of_chk (h : chkDraw P n ops pl on = true) : Reg P n ops pl on := by
  simp only [chkDraw, Bool.and_eq_true] at h
  obtain ⟨⟨⟨⟨h1, h2⟩, h3⟩, _⟩, _⟩ := h
  obtain ⟨hl, hg⟩ := chkOps_get h1
  simp only [Array.length_toList] at hl
  have hp : ∀ i j, i < j → j < pl.length → okNew (pl.getD i default) (pl.getD j default) = true ∧ (Ahead ops i j ∨ okPair (pl.getD i default) (on.lookup i) (pl.getD j default) (on.lookup j) = true) := by
    intro i j hij hj
    simp only [chkPairs, List.all_eq_true, List.mem_range, Bool.and_eq_true, Bool.or_eq_true] at h3
    obtain ⟨q1, q2⟩ := h3 j hj i hij
    refine ⟨q1, q2.imp (fun q => ?_) id⟩
    exact masks_sound ops.toList [] (fun k hk => by simp at hk ⊢) (fun k i h => by simp at h) j i q
  refine ⟨hl, fun i o ho => ?_, fun i hi => ?_, fun i j hi hj hij => ?_, fun i j hij hj => (hp i j hij hj).2⟩
  · obtain ⟨hi, rfl⟩ := Array.getElem?_eq_some_iff.1 ho
    have := hg i (by simpa using hi) (by omega)
    have e : pl.getD i default = pl[i]'(by omega) := by simp [show i < pl.length by omega]
    rw [e]
    simpa using this
  · have e : pl.getD i default = pl[i] := by simp [hi]
    rw [e]
    exact List.all_eq_true.1 h2 _ (List.getElem_mem hi)
  · rcases Nat.lt_or_gt_of_ne hij with h | h
    · exact (hp i j h hj).1
    · exact okNew_symm (hp j i h hi).1
theorem dead_step {C : CallP} {p : POp} {s s' : PS} {v : PV} {wb : Nat → Option Box} {act : Bool} (L : LocG C p s s' v wb act) {d : Nat} (hd : (s.bx d).st = .dead) (hne : ¬ (isNew p.k = true ∧ p.dst = some d)) : (s'.bx d).st = .dead := by
  rw [L.eq]
  show ((wb d).getD (s.bx d)).st = .dead
  cases hw : wb d with
  | none => exact hd
  | some b =>
    exfalso
    cases ha : act with
    | false => rw [L.wb0 ha] at hw; cases hw
    | true =>
      rcases L.wb1 ha d b hw with ⟨_, ⟨ver, hr⟩, _⟩ | ⟨_, ver, hr⟩ | ⟨hn, hde, _⟩
      · exact (L.live ha d ver hr (ref_key hr)).2 hd
      · exact (L.live ha d ver hr (ref_key hr)).2 hd
      · exact hne ⟨hn, hde⟩
theorem stepR (hR : Reg P n ops pl on) {i : Nat} (hi : i < pl.length) {rem : List Nat} (hrem : ∀ j ∈ rem, j < pl.length ∧ j ≠ i) {s : PS} (hS : SimEx O A0 w0 n s) (hD : DeadR pl rem s) {K : PS → Prop} (h : wpG (PCallG P) (pl.getD i default) s K) :
    wpG (PCallG P) (pl.getD i default) s fun s1 => K s1 ∧ SimEx O A0 w0 n s1 ∧ DeadR pl rem s1 := by
  obtain ⟨s', v, wb, act, L, hK⟩ := locG (storeOk_spec (hR.store i hi)) h
  have hself : wpG (PCallG P) (pl.getD i default) s (· = s') := by
    have := L.again s (fun _ _ => rfl) fun _ => ⟨fun e ver _ => ⟨fun _ => kindEq.refl _, fun _ => rfl⟩, fun _ _ _ => rfl⟩
    rw [← L.eq] at this
    exact this
  refine wpG_mono (fun s1 hs1 => ?_) hself
  subst hs1
  refine ⟨hK, ?_, ?_⟩
  · obtain ⟨β, a, w, hs, hn, hd⟩ := hS
    have hio : i < ops.size := by rw [hR.len]; exact hi
    have ho : ops[i]? = some ops[i] := Array.getElem?_eq_getElem hio
    have := op_wpOp (next := fun a' w' => SimEx O A0 w0 n s1) (Q := fun _ _ _ => False) ho (hR.chk i _ ho) hn hs hself fun β' s2 a' w' hS' hn' hd' e => by
      subst e
      exact ⟨β', a', w', hS', hn', hd'.trans hd⟩
    obtain ⟨_, _, h⟩ := wpOp_ex ho this
    exact h
  · intro j hj hn d hde
    refine dead_step L (hD j hj hn d hde) ?_
    rintro ⟨hn', hde'⟩
    have := hR.new i j hi (hrem j hj).1 (Ne.symm (hrem j hj).2)
    unfold okNew at this
    rw [hn, hn', hde, hde'] at this
    simp at this
theorem moveFront (hR : Reg P n ops pl on) {i : Nat} (hi : i < pl.length) {K : PS → Prop} : ∀ (pre post : List Nat) (s : PS), (∀ j ∈ pre, j < pl.length ∧ j ≠ i ∧ okPair (pl.getD j default) (on.lookup j) (pl.getD i default) (on.lookup i) = true) → (pre ++ i :: post).Nodup → (∀ j ∈ post, j < pl.length) →
    SimEx O A0 w0 n s → DeadR pl (pre ++ i :: post) s → wpR (PCallG P) pl on (pre ++ i :: post) s K → wpR (PCallG P) pl on (i :: (pre ++ post)) s K
  | [], post, s, _, _, _, _, _, h => h
  | j :: pre, post, s, hpre, hnd, hpost, hS, hD, h => by
    obtain ⟨hj, hji, hok⟩ := hpre j (by simp)
    simp only [List.cons_append, wpR] at h ⊢
    have hnd' : (pre ++ i :: post).Nodup ∧ j ∉ pre ++ i :: post := by
      simp only [List.cons_append, List.nodup_cons] at hnd; exact ⟨hnd.2, hnd.1⟩
    have hrem : ∀ k ∈ pre ++ i :: post, k < pl.length ∧ k ≠ j := by
      intro k hk
      refine ⟨?_, fun e => hnd'.2 (e ▸ hk)⟩
      rcases List.mem_append.1 hk with hk | hk
      · exact (hpre k (by simp [hk])).1
      · rcases List.mem_cons.1 hk with rfl | hk
        · exact hi
        · exact hpost k hk
    obtain ⟨hc0, h⟩ := h
    have h1 := stepR hR hj hrem hS (fun k hk => hD k (by simp only [List.cons_append, List.mem_cons]; exact .inr hk)) h
    have h2 : wpG (PCallG P) (pl.getD j default) s fun s1 => clm (pl.getD i default) (on.lookup i) s1 ∧ wpG (PCallG P) (pl.getD i default) s1 fun s2 => wpR (PCallG P) pl on (pre ++ post) s2 K := by
      refine wpG_mono (fun s1 hs1 => ?_) h1
      have := moveFront hR hi pre post s1 (fun k hk => hpre k (by simp [hk])) hnd'.1 hpost hs1.2.1 hs1.2.2 hs1.1
      exact this
    obtain ⟨β, a, w, hsim, _, _⟩ := hS
    exact swap (storeOk_spec (hR.store j hj)) (storeOk_spec (hR.store i hi)) hok hsim.wf hc0 (fun hn d hde => hD j (by simp) hn d hde) (fun hn d hde => hD i (by simp) hn d hde) h2
theorem Ahead.listed {listed : Array Bool} (hcl : ∀ j, listed.getD j false = true → ∀ o e, ops[j]? = some o → e ∈ o.after.toList → Region.binds .any e = true → listed.getD e.on false = true) {i j : Nat} (h : Ahead ops i j) : listed.getD j false = true → listed.getD i false = true := by
  induction h with
  | edge i j o e ho he hb hi => intro hj; rw [← hi]; exact hcl j hj o e ho he hb
  | trans i j k _ _ ih1 ih2 => intro hk; exact ih1 (ih2 hk)
def left_ (m : Nat) (listed : Array Bool) : List Nat := (List.range m).filter fun i => !listed.getD i true
theorem mem_left {m : Nat} {listed : Array Bool} {i : Nat} : i ∈ left_ m listed ↔ i < m ∧ listed.getD i true = false := by
  simp [left_]
theorem left_set {m i : Nat} {listed : Array Bool} (hsz : listed.size = m) (hi : i < m) : left_ m (listed.setIfInBounds i true) = (left_ m listed).filter (· != i) := by
  unfold left_
  rw [List.filter_filter]
  refine List.filter_congr fun k hk => ?_
  have hk' : k < m := by simpa using hk
  by_cases e : k = i
  · subst e; simp [hsz, hk']
  · have : (listed.setIfInBounds i true)[k]? = listed[k]? := Array.getElem?_setIfInBounds_ne (Ne.symm e)
    simp only [Array.getD_eq_getD_getElem?, this]
    simp [e]
theorem filter_split {l : List Nat} (hn : l.Nodup) {i : Nat} (hi : i ∈ l) : ∃ pre post, l = pre ++ i :: post ∧ l.filter (· != i) = pre ++ post := by
  obtain ⟨pre, post, rfl⟩ := List.append_of_mem hi
  refine ⟨pre, post, rfl, ?_⟩
  rw [List.nodup_append] at hn
  obtain ⟨h1, h2, h3⟩ := hn
  rw [List.nodup_cons] at h2
  have e1 : pre.filter (· != i) = pre := List.filter_eq_self.2 fun k hk => by
    have := h3 k hk i (by simp); simpa using this
  have e2 : post.filter (· != i) = post := List.filter_eq_self.2 fun k hk => by
    have : k ≠ i := fun e => h2.1 (e ▸ hk)
    simpa using this
  simp [List.filter_append, e1, e2]
theorem any_order (hR : Reg P n ops pl on) (md : Region.Mode) {ord : List Nat} (htopo : chkTopo md ops ord [] = true) (hmd : ∀ e, Region.binds .any e = true → Region.binds md e = true) {K : PS → Prop} {Q : Exit → Act → World → Prop}
    (hQ : ∀ β s a w, Sim O w0 A0 β s (tmf a) w → a.tmps.size = n → a.defers = [] → K s → Q .normal a w) :
    ∀ (fuel : Nat) (listed : Array Bool), listed.size = ops.size → (left_ ops.size listed).length = fuel →
    (∀ j, listed.getD j false = true → ∀ o e, ops[j]? = some o → e ∈ o.after.toList → Region.binds .any e = true → listed.getD e.on false = true) →
    ∀ (β : Bt) (s : PS) (a : Act) (w : World), Sim O w0 A0 β s (tmf a) w → a.tmps.size = n → a.defers = [] → DeadR pl (left_ ops.size listed) s → wpR (PCallG P) pl on (left_ ops.size listed) s K → wpAny P md ops Q fuel listed a w
  | 0, listed, hsz, hfuel, hcl, β, s, a, w, hS, hn, hd, hD, h => by
    have h0 := List.eq_nil_of_length_eq_zero hfuel
    rw [h0] at h
    refine ⟨?_, hQ β s a w hS hn hd h⟩
    unfold Region.ready
    rw [List.filter_eq_nil_iff]
    intro k hk
    have hk' : k < ops.size := by simpa using hk
    have : ¬ k ∈ left_ ops.size listed := by rw [h0]; simp
    rw [mem_left] at this
    simp [hk'] at this ⊢
    intro h
    simp_all
  | fuel + 1, listed, hsz, hfuel, hcl, β, s, a, w, hS, hn, hd, hD, h => by
    have hnd : (left_ ops.size listed).Nodup := List.Pairwise.filter _ List.nodup_range
    refine ⟨fun hr => ?_, fun i hi => ?_⟩
    · exfalso
      have : ∃ i, i ∈ left_ ops.size listed := by
        cases hl : left_ ops.size listed with
        | nil => rw [hl] at hfuel; simp at hfuel
        | cons x l => exact ⟨x, by simp⟩
      obtain ⟨i, hi⟩ := this
      rw [mem_left] at hi
      exact topo_ready md listed hsz ord [] htopo (by simp) ⟨i, hi.1, hi.2⟩ hr
    · unfold Region.ready at hi
      simp only [List.mem_filter, List.mem_range, Bool.and_eq_true, Bool.not_eq_true'] at hi
      obtain ⟨hio, hun, hready⟩ := hi
      have ho : ops[i]? = some ops[i] := Array.getElem?_eq_getElem hio
      rw [ho] at hready
      simp only [Option.map_some, Option.getD_some, Array.all_eq_true_iff_forall_mem, Bool.or_eq_true, Bool.not_eq_true'] at hready
      have hil : i < pl.length := by rw [← hR.len]; exact hio
      have hmem : i ∈ left_ ops.size listed := mem_left.2 ⟨hio, hun⟩
      obtain ⟨pre, post, hsplit, hfil⟩ := filter_split hnd hmem
      rw [hsplit] at h hD hnd
      have hlt : ∀ k ∈ pre ++ i :: post, k < pl.length := fun k hk => by rw [← hR.len]; exact (mem_left.1 (hsplit ▸ hk)).1
      have hpre : ∀ j ∈ pre, j < pl.length ∧ j ≠ i ∧ okPair (pl.getD j default) (on.lookup j) (pl.getD i default) (on.lookup i) = true := by
        intro j hj
        have hjm : j ∈ left_ ops.size listed := hsplit ▸ List.mem_append_left _ hj
        have hji : j < i := by
          have hs : (pre ++ i :: post).Pairwise (· < ·) := hsplit ▸ List.Pairwise.filter _ List.pairwise_lt_range
          exact (List.pairwise_append.1 hs).2.2 j hj i (by simp)
        refine ⟨hlt j (List.mem_append_left _ hj), by omega, ?_⟩
        rcases hR.pair j i hji hil with ha | ha
        · exfalso
          -- it stands ahead of 'i', and so is listed
          have hlist : ∀ {x y : Nat}, Ahead ops x y → y = i → listed.getD x false = true := by
            intro x y hxy
            induction hxy with
            | edge x y o e ho' he hb hx =>
              intro hy
              subst hy
              rw [ho] at ho'
              cases ho'
              rcases hready e (by simpa using he) with h' | h'
              · rw [hmd e hb] at h'; cases h'
              · rw [← hx]; exact h'
            | trans x y z h1 h2 ih1 ih2 =>
              intro hz
              exact h1.listed hcl (ih2 hz)
          have := hlist ha rfl
          have hj2 := (mem_left.1 hjm).2
          have hjs : j < listed.size := by rw [hsz]; exact (mem_left.1 hjm).1
          simp [hjs] at this hj2
          rw [this] at hj2
          cases hj2
        · exact ha
      have hfront := moveFront hR hil pre post s hpre hnd (fun k hk => hlt k (by simp [hk])) ⟨β, a, w, hS, hn, hd⟩ hD h
      simp only [wpR] at hfront
      have hrem : ∀ k ∈ pre ++ post, k < pl.length ∧ k ≠ i := by
        intro k hk
        have hnn : i ∉ pre ++ post := by
          rw [List.nodup_append] at hnd
          obtain ⟨_, h2, h3⟩ := hnd
          rw [List.nodup_cons] at h2
          intro hm
          rcases List.mem_append.1 hm with hm | hm
          · exact h3 i hm i (by simp) rfl
          · exact h2.1 hm
        refine ⟨hlt k ?_, fun e => hnn (e ▸ hk)⟩
        rcases List.mem_append.1 hk with hk | hk
        · exact List.mem_append_left _ hk
        · exact List.mem_append_right _ (List.mem_cons_of_mem _ hk)
      have hD' : DeadR pl (pre ++ post) s := fun k hk => hD k (by
        rcases List.mem_append.1 hk with hk | hk
        · exact List.mem_append_left _ hk
        · exact List.mem_append_right _ (List.mem_cons_of_mem _ hk))
      have hstep := stepR hR hil hrem ⟨β, a, w, hS, hn, hd⟩ hD' hfront.2
      have hset := left_set hsz hio
      refine op_wpOp ho (hR.chk i _ ho) hn hS hstep fun β' s' a' w' hS' hn' hd' hK => ?_
      refine any_order hR md htopo hmd hQ fuel (listed.setIfInBounds i true) (by simpa using hsz) ?_ ?_ β' s' a' w' hS' hn' (hd'.trans hd) (by rw [hset, hfil]; exact hK.2.2) (by rw [hset, hfil]; exact hK.1)
      · rw [hset, hfil]
        rw [hsplit] at hfuel
        simp at hfuel ⊢
        omega
      · intro j hj o e ho' he hb
        by_cases hje : j = i
        · subst hje
          rw [ho] at ho'
          cases ho'
          rcases hready e (by simpa using he) with h' | h'
          · rw [hmd e hb] at h'; cases h'
          · by_cases hei : e.on = j
            · rw [hei]; simp [hsz, hio]
            · have : (listed.setIfInBounds j true)[e.on]? = listed[e.on]? := Array.getElem?_setIfInBounds_ne (Ne.symm hei)
              simp only [Array.getD_eq_getD_getElem?, this]
              simpa [Array.getD_eq_getD_getElem?] using h'
        · have e1 : (listed.setIfInBounds i true)[j]? = listed[j]? := Array.getElem?_setIfInBounds_ne (Ne.symm hje)
          have hj' : listed.getD j false = true := by
            simp only [Array.getD_eq_getD_getElem?, e1] at hj ⊢; exact hj
          have := hcl j hj' o e ho' he hb
          by_cases hei : e.on = i
          · rw [hei]; simp [hsz, hio]
          · have e2 : (listed.setIfInBounds i true)[e.on]? = listed[e.on]? := Array.getElem?_setIfInBounds_ne (Ne.symm hei)
            simp only [Array.getD_eq_getD_getElem?, e2] at this ⊢
            exact this
end
end Go.Pl
/-
  A slice of the frame's own changes its box. My own work.
-/
namespace Go.Pl
open Go
set_option linter.unusedVariables false
section
variable {O : Nat → Prop} {A0 : Lent} {w0 w : World} {β : Bt} {s : PS} {a : Act} {P : Program}
theorem Sim.rn {tm : Nat → Value} (h : Sim O w0 A0 β s tm w) {i d e ver len sz : Nat} {es : List (List CV)} (hi : s.t i = .osl d ver 0 len) (hb : s.bx d = ⟨ver, .sl sz es⟩) (hde : d ≠ e) (hl : len = es.length) :
    Sim O w0 A0 (fun j => if j = e then β d else β j) (((s.box d ⟨ver, .dead⟩).box e ⟨(s.bx e).ver + 1, .sl sz es⟩).put i (.osl e ((s.bx e).ver + 1) 0 len)) tm w := by
  have hR := h.temps i
  rw [hi] at hR
  have hB := h.boxes d
  rw [hb] at hB
  have hH := hdr_of hR hb hl hB
  have hm := h.move (d := d) (e := e) (sz := sz) (es := es) hde (by rw [hb])
  rw [show (s.bx d).ver = ver by rw [hb]] at hm
  have hbe : ((s.box d ⟨ver, .dead⟩).box e ⟨(s.bx e).ver + 1, .sl sz es⟩).bx e = ⟨(s.bx e).ver + 1, .sl sz es⟩ := by simp [PS.box]
  have := hm.put i (.osl e ((s.bx e).ver + 1) 0 len) (tm i) (by
    refine ⟨⟨by rw [hbe]; exact Nat.le_refl _, hH.one⟩, fun _ sz2 es2 hs2 => ⟨rfl, ?_⟩⟩
    rw [hbe] at hs2
    cases hs2
    simp only [if_true]
    rcases hH with ⟨h1, h2, h3⟩ | ⟨b, cap, h1, h2, h3, h4⟩
    · exact .inl ⟨h1, h2, by rw [hl, h3]; rfl⟩
    · exact .inr ⟨b, cap, h1, by rw [hl]; exact h2, by rw [hl]; exact h3, h4⟩)
  have e0 : (fun j => if j = i then tm i else tm j) = tm := by funext j; split <;> simp_all
  rw [e0] at this
  exact this
/-! ### Cells of a variable -/
theorem Sim.fzc {tm : Nat → Value} (h : Sim O w0 A0 β s tm w) {d ver k e u off len : Nat} {ps : List PV} (hb : s.bx d = ⟨ver, .vp ps⟩) (hk : ps[k]? = some (.osl e u off len)) (hed : e ≠ d) {c : CV} (hc : s.close (.osl e u off len) = some c) :
    Sim O w0 A0 β ((s.box e ⟨u, .dead⟩).box d ⟨ver, .vp (ps.set k (.c c))⟩) tm w := by
  obtain ⟨hkl, hk⟩ := List.getElem?_eq_some_iff.1 hk
  simp only [PS.close] at hc
  split at hc
  · rename_i q sz es hbe
    split at hc
    · rename_i hcond
      obtain ⟨rfl, rfl, hl⟩ := hcond
      obtain rfl := Option.some.inj hc
      have hB := h.boxes e
      rw [hbe] at hB
      have hK := h.kill e
      rw [hbe] at hK
      have hbd : (s.box e ⟨q, .dead⟩).bx d = ⟨ver, .vp ps⟩ := by simp [PS.box, Ne.symm hed, hb]
      -- each value of the cell is a header of the box
      obtain ⟨b, base, hp, ho, hcs⟩ := h.vps d ps (by rw [hb])
      obtain ⟨v, hv, hR⟩ := hcs.2 k hkl
      rw [hk] at hR
      have hV := close_own h (d := e) (sz := sz) (es := es) (by rw [hbe]) (hdr_of hR hbe hl hB) q
      obtain ⟨b', base', hp', ho', hcs'⟩ := hK.vps d ps (by rw [hbd])
      have hown : ((s.box e ⟨q, .dead⟩).bx d).st.owned = true := by rw [hbd]; rfl
      have := hK.change (w' := w) d (β d) ⟨ver, .vp (ps.set k (.c (.sl es)))⟩ rfl rfl rfl (Nat.le_refl _) (fun b _ _ => rfl)
        (.inr ⟨by rw [hbd], .inr ⟨rfl, fun _ => (by rw [hbd]; rfl), fun sz es hs => (by cases hs)⟩⟩)
        (fun p _ hp => .inl ⟨hown, p, hp, rfl⟩) trivial
        (fun hext hcomp ps' hps' => by
          cases hps'
          refine ⟨b', base', hp', by rw [List.length_set]; exact ho', fun p hp => ?_, fun j hj => ?_⟩
          · rcases List.mem_or_eq_of_mem_set hp with hp | rfl
            · exact hcs'.1 p hp
            · rfl
          · have hj' : j < ps.length := by simpa using hj
            by_cases e' : k = j
            · subst e'
              refine ⟨v, ?_, ?_⟩
              · rw [hp] at hp'
                obtain ⟨rfl, rfl⟩ := Prod.mk.inj (Option.some.inj hp')
                exact hv
              · rw [List.getElem_set_self]
                exact V.ext hext hV
            · obtain ⟨v, hv, hRj⟩ := hcs'.2 j hj'
              exact ⟨v, hv, by rw [List.getElem_set_ne e']; exact hRj.change hext hcomp⟩)
      have e0 : (fun i => if i = d then β d else β i) = β := by funext i; split <;> simp_all
      rw [e0] at this
      exact this
    · cases hc
  · cases hc
theorem Sim.rnc {tm : Nat → Value} (h : Sim O w0 A0 β s tm w) {d ver k g e u len sz : Nat} {es : List (List CV)} {ps : List PV} (hb : s.bx d = ⟨ver, .vp ps⟩) (hk : ps[k]? = some (.osl g u 0 len)) (hde : d ≠ e) (hge : g ≠ e) (hgd : g ≠ d) (hbg : s.bx g = ⟨u, .sl sz es⟩) (hl : len = es.length) :
    Sim O w0 A0 (fun j => if j = e then β g else β j) (((s.box g ⟨u, .dead⟩).box e ⟨(s.bx e).ver + 1, .sl sz es⟩).box d ⟨ver, .vp (ps.set k (.osl e ((s.bx e).ver + 1) 0 len))⟩) tm w := by
  obtain ⟨hkl, hk⟩ := List.getElem?_eq_some_iff.1 hk
  have hB := h.boxes g
  rw [hbg] at hB
  obtain ⟨b, base, hp, ho, hcs⟩ := h.vps d ps (by rw [hb])
  obtain ⟨v, hv, hR⟩ := hcs.2 k hkl
  rw [hk] at hR
  have hH := hdr_of hR hbg hl hB
  have hm := h.move (d := g) (e := e) (sz := sz) (es := es) hge (by rw [hbg])
  rw [show (s.bx g).ver = u by rw [hbg]] at hm
  have hbd : ((s.box g ⟨u, .dead⟩).box e ⟨(s.bx e).ver + 1, .sl sz es⟩).bx d = ⟨ver, .vp ps⟩ := by simp [PS.box, hde, Ne.symm hgd, hb]
  have hbe : ((s.box g ⟨u, .dead⟩).box e ⟨(s.bx e).ver + 1, .sl sz es⟩).bx e = ⟨(s.bx e).ver + 1, .sl sz es⟩ := by simp [PS.box]
  obtain ⟨b', base', hp', ho', hcs'⟩ := hm.vps d ps (by rw [hbd])
  have hown : (((s.box g ⟨u, .dead⟩).box e ⟨(s.bx e).ver + 1, .sl sz es⟩).bx d).st.owned = true := by rw [hbd]; rfl
  have := hm.change (w' := w) d ((fun j => if j = e then β g else β j) d) ⟨ver, .vp (ps.set k (.osl e ((s.bx e).ver + 1) 0 len))⟩ rfl rfl rfl (Nat.le_refl _) (fun b _ _ => rfl)
    (.inr ⟨by rw [hbd], .inr ⟨rfl, fun _ => (by rw [hbd]; rfl), fun sz es hs => (by cases hs)⟩⟩)
    (fun p _ hp => .inl ⟨hown, p, hp, rfl⟩) trivial
    (fun hext hcomp ps' hps' => by
      cases hps'
      refine ⟨b', base', hp', by rw [List.length_set]; exact ho', fun p hp => ?_, fun j hj => ?_⟩
      · rcases List.mem_or_eq_of_mem_set hp with hp | rfl
        · exact hcs'.1 p hp
        · rfl
      · have hj' : j < ps.length := by simpa using hj
        by_cases e' : k = j
        · subst e'
          refine ⟨v, ?_, ?_⟩
          · simp only [if_neg hde] at hp'
            rw [hp] at hp'
            obtain ⟨rfl, rfl⟩ := Prod.mk.inj (Option.some.inj hp')
            exact hv
          · rw [List.getElem_set_self]
            refine R.change hext hcomp ?_
            refine ⟨⟨by rw [hbe]; exact Nat.le_refl _, hH.one⟩, fun _ sz2 es2 hs2 => ⟨rfl, ?_⟩⟩
            rw [hbe] at hs2
            cases hs2
            simp only [if_true]
            rcases hH with ⟨h1, h2, h3⟩ | ⟨b, cap, h1, h2, h3, h4⟩
            · exact .inl ⟨h1, h2, by rw [hl, h3]; rfl⟩
            · exact .inr ⟨b, cap, h1, by rw [hl]; exact h2, by rw [hl]; exact h3, h4⟩
        · obtain ⟨v, hv, hRj⟩ := hcs'.2 j hj'
          exact ⟨v, hv, by rw [List.getElem_set_ne e']; exact hRj.change hext hcomp⟩)
  have e0 : (fun i => if i = d then (fun j => if j = e then β g else β j) d else (fun j => if j = e then β g else β j) i) = (fun j => if j = e then β g else β j) := by funext i; split <;> simp_all
  rw [e0] at this
  exact this
theorem Sim.nvp {tm : Nat → Value} (h : Sim O w0 A0 β s tm w) {d ver : Nat} {ps : List PV} {cs : List CV} (hb : s.bx d = ⟨ver, .vp ps⟩) (hc : closed? ps = some cs) : Sim O w0 A0 β (s.box d ⟨ver, .var cs⟩) tm w := by
  obtain ⟨b, base, hp, ho, hcs⟩ := h.vps d ps (by rw [hb])
  obtain ⟨hca, hlen⟩ := closed_cells hc hcs
  have hown : (s.bx d).st.owned = true := by rw [hb]; rfl
  have hless : ∀ b, Nn O (fun i => if i = d then β d else β i) (fun i => if i = d then ⟨ver, .var cs⟩ else s.bx i) b → Nn O β s.bx b := by
    rintro b (hn | ⟨i, base, ho, hi⟩)
    · exact .inl hn
    · by_cases e : i = d
      · subst e; simp only [if_true] at hi; exact .inr ⟨i, base, hown, hi⟩
      · simp only [if_neg e] at ho hi; exact .inr ⟨i, base, ho, hi⟩
  have := h.change (w' := w) d (β d) ⟨ver, .var cs⟩ rfl rfl rfl (Nat.le_refl _) (fun b _ _ => rfl)
    (.inr ⟨by rw [hb], .inr ⟨rfl, fun _ => (by rw [hb]; rfl), fun sz es hs => (by cases hs)⟩⟩)
    (fun p _ hp => .inl ⟨hown, p, hp, rfl⟩) ⟨b, base, hp, by rw [hlen]; exact ho, hca.ext (.of_less hless) rfl⟩
  have e0 : (fun i => if i = d then β d else β i) = β := by funext i; split <;> simp_all
  rw [e0] at this
  exact this
end
end Go.Pl
/-
  WHOLE FUNCTIONS: what the plain code comes to, the model's call comes to. My own work.
-/
namespace Go.Pl
open Go
set_option linter.unusedVariables false
set_option linter.unusedSimpArgs false
def chkC (P : Program) (n : Nat) : Code → PCode → Bool
  | c, .fz _ p => chkC P n c p
  | c, .rn _ _ p => chkC P n c p
  | c, .fzc _ _ p => chkC P n c p
  | c, .rnc _ _ _ p => chkC P n c p
  | c, .nvp _ p => chkC P n c p
  | c, .skip => match c with | .skip => true | _ => false
  | c, .ops dr l => match c with
    | .region _ ops draw => (dr == draw) && (if draw then chkDraw P n ops l [] else chkOps P n ops ops.toList l)
    | _ => false
  | c, .opsB l on => match c with
    | .region _ ops draw => draw && chkDraw P n ops l on
    | _ => false
  | c, .seq p q => match c with
    | .seq a b => chkC P n a p && chkC P n b q
    | _ => false
  | c, .cond x p q => match c with
    | .cond y a b => chkPO y x && chkC P n a p && chkC P n b q
    | _ => false
  | c, .block id p => match c with
    | .block id' a => decide (id' = id) && chkC P n a p
    | _ => false
  | c, .loop p => match c with
    | .loop a => chkC P n a p
    | _ => false
  | c, .exit id => match c with
    | .exit id' => decide (id' = id)
    | _ => false
  | c, .ret => match c with | .ret => true | _ => false
def exOf : Ex → Exit
  | .n => .normal
  | .x id => .exit id
  | .r => .ret
section
variable {O : Nat → Prop} {A0 : Lent} {w0 : World} {P : Program} {n : Nat}
theorem Sim.killsAll {β : Bt} {tm : Nat → Value} {w : World} : ∀ (l : List Nat) {s : PS}, Sim O w0 A0 β s tm w → Sim O w0 A0 β (s.kills l) tm w
  | [], s, h => h
  | d :: l, s, h => Sim.killsAll l (h.kill d)
theorem kills_dead : ∀ (l : List Nat) (s : PS) (d : Nat), (d ∈ l ∨ (s.bx d).st = .dead) → ((s.kills l).bx d).st = .dead
  | [], s, d, h => h.resolve_left (by simp)
  | e :: l, s, d, h => by
    refine kills_dead l _ d ?_
    by_cases hde : d = e
    · subst hde; exact .inr (by simp [PS.box])
    · rcases h with h | h
      · rcases List.mem_cons.1 h with rfl | h
        · exact absurd rfl hde
        · exact .inl h
      · exact .inr (by simp only [PS.box, if_neg hde]; exact h)
theorem mem_newSites : ∀ {l : List POp} {p : POp} {d : Nat}, p ∈ l → isNew p.k = true → p.dst = some d → d ∈ newSites l
  | q :: l, p, d, hp, hn, hd => by
    rcases List.mem_cons.1 hp with rfl | hp
    · simp [newSites, hn, hd]
    · have := mem_newSites hp hn hd
      simp only [newSites]
      split
      · exact List.mem_cons_of_mem _ this
      · exact this
def InLoop (P : Program) (c : Code) (Q : Exit → Act → World → Prop) (a : Act) (w : World) : Prop :=
  ∀ (b : Frame) (k : List Item) (cs : List Frame), ∃ e a' w', Q e a' w' ∧ Arrives P (lone (b.at a (.code c :: .inLoop c :: k)) cs w) b k cs e a' w'
theorem inLoop_of {c : Code} {Q : Exit → Act → World → Prop} {a : Act} {w : World} (h : c.wp P (Exit.then (InLoop P c Q) Q) a w) : InLoop P c Q a w := by
  intro b k cs
  obtain ⟨e, a₁, w₁, hq, harr⟩ := h b (.inLoop c :: k) cs
  cases e with
  | normal =>
    obtain ⟨e₂, a₂, w₂, hq₂, harr₂⟩ := hq b k cs
    exact ⟨e₂, a₂, w₂, hq₂, .of_steps (Steps.trans harr (.one step_inLoop)) harr₂⟩
  | exit id => exact ⟨_, a₁, w₁, hq, .pass (x := .inLoop c) rfl (fun _ _ => .inl (by simp)) harr⟩
  | goto l => exact ⟨_, a₁, w₁, hq, .pass (x := .inLoop c) rfl (fun _ _ => .inl (by simp)) harr⟩
  | ret => exact ⟨_, a₁, w₁, hq, .pass (x := .inLoop c) rfl (fun _ _ => .inl (by simp)) harr⟩
  | panic ch => exact ⟨_, a₁, w₁, hq, .pass (x := .inLoop c) rfl (fun _ _ => .inl (by simp)) harr⟩
  | outgrown => exact ⟨_, a₁, w₁, hq, .pass (x := .inLoop c) rfl (fun _ _ => .inl (by simp)) harr⟩
theorem draw_sound {id : Nat} {ops : Array Oper} {l : List POp} {on : List (Nat × Nat)} (hc : chkDraw P n ops l on = true) {K : PS → Prop} {Q : Exit → Act → World → Prop}
    (hQ : ∀ β s a w, Sim O w0 A0 β s (tmf a) w → a.tmps.size = n → a.defers = [] → K s → Q .normal a w) {β : Bt} {s : PS} {a : Act} {w : World} (h : Sim O w0 A0 β s (tmf a) w) (hn : a.tmps.size = n) (hd : a.defers = [])
    (hw : wpLB (PCallG P) on 0 l (s.kills (newSites l)) K) : (Code.region id ops true).wp P Q a w := by
  have hR := Reg.of_chk hc
  refine wp_region_draw fun t => ?_
  have hk := h.killsAll (newSites l)
  have hdrew : Sim O w0 A0 β (s.kills (newSites l)) (tmf a) { w with drawn := w.drawn + 1 } := hk.grow rfl rfl rfl (Nat.le_refl _) fun _ _ => rfl
  have hleft : left_ ops.size (Array.replicate ops.size false) = List.range ops.size := by
    unfold left_
    refine List.filter_eq_self.2 fun i hi => ?_
    have : i < ops.size := by simpa using hi
    simp [this]
  have hwr : wpR (PCallG P) l on (List.range ops.size) (s.kills (newSites l)) K := by
    rw [hR.len, List.range_eq_range']
    exact wpR_of_wpLB l.length 0 (by simp) _ (by simpa using hw)
  have hD : DeadR l (List.range ops.size) (s.kills (newSites l)) := by
    intro i hi hn' d hde
    have hil : i < l.length := by rw [← hR.len]; simpa using hi
    refine kills_dead _ _ _ (.inl (mem_newSites (List.getElem_mem hil) ?_ ?_))
    · have e : l.getD i default = l[i] := by simp [hil]
      rw [e] at hn'; exact hn'
    · have e : l.getD i default = l[i] := by simp [hil]
      rw [e] at hde; exact hde
  have any : ∀ (md : Region.Mode) (ord : List Nat), chkTopo md ops ord [] = true → (∀ e, Region.binds .any e = true → Region.binds md e = true) → ∀ t', wpOps P ops Q (Region.linearise md ops t') a { w with drawn := w.drawn + 1 } := by
    intro md ord htopo hmd t'
    refine wpAny_sound ops.size t' _ a _ ?_
    refine any_order hR md htopo hmd (K := K) hQ ops.size (Array.replicate ops.size false) (by simp) (by rw [hleft]; simp) (fun j hj => ?_) β _ a _ hdrew hn hd (by rw [hleft]; exact hD) (by rw [hleft]; exact hwr)
    exfalso
    simp only [Array.getD_eq_getD_getElem?, Array.getElem?_replicate] at hj
    split at hj <;> simp at hj
  simp only [chkDraw, Bool.and_eq_true, Bool.or_eq_true] at hc
  obtain ⟨⟨_, h4⟩, h5⟩ := hc
  unfold Region.schedule
  split
  · exact any .any _ h4 (fun _ h => h) t
  · rename_i hm
    simp only [Bool.or_eq_true, Bool.not_eq_true', not_or, Bool.not_eq_false, Bool.not_eq_true] at hm
    rcases h5 with h5 | h5
    · simp [hm.2] at h5
    · split
      · exact any .text _ h5.1 (fun e h => by cases hg : e.ground <;> simp_all [Region.binds]) _
      · exact any .gc _ h5.2 (fun e h => by cases hg : e.ground <;> simp_all [Region.binds]) _
theorem pwp_sound : ∀ (pc : PCode) (c : Code), chkC P n c pc = true → ∀ (K : Ex → PS → Prop) (Q : Exit → Act → World → Prop),
    (∀ e β s a w, Sim O w0 A0 β s (tmf a) w → a.tmps.size = n → a.defers = [] → K e s → Q (exOf e) a w) →
    ∀ β s a w, Sim O w0 A0 β s (tmf a) w → a.tmps.size = n → a.defers = [] → pwp (PCallG P) pc s K → c.wp P Q a w := by
  intro pc
  induction pc with
  | skip =>
    intro c hc K Q hQ β s a w h hn hd hw
    unfold chkC at hc
    split at hc <;> (try (cases hc; done))
    exact wp_skip (hQ .n β s a w h hn hd hw)
  | ops dr l =>
    intro c hc K Q hQ β s a w h hn hd hw
    unfold chkC at hc
    split at hc <;> (try (cases hc; done))
    rename_i id ops draw
    simp only [Bool.and_eq_true, beq_iff_eq] at hc
    obtain ⟨rfl, hc⟩ := hc
    simp only [pwp] at hw
    cases dr with
    | false =>
      simp only [Bool.false_eq_true, if_false] at hc hw
      obtain ⟨hl, _⟩ := chkOps_get hc
      refine wp_region ?_
      have := seq_ops (O := O) (A0 := A0) (w0 := w0) hc (K := K .n) (Q := Q) (fun β s a w h hn hd hK => hQ .n β s a w h hn hd hK) l.length 0 (by simp) β s a w h hn hd (by simpa using hw)
      · rw [← List.range_eq_range'] at this
        have e : ops.size = l.length := by simpa using hl
        rw [e]
        exact this
    | true =>
      simp only [if_true] at hc hw
      exact draw_sound hc (fun β s a w h hn hd hK => hQ .n β s a w h hn hd hK) h hn hd (wpLB_of_wpL _ _ _ hw)
  | opsB l on =>
    intro c hc K Q hQ β s a w h hn hd hw
    unfold chkC at hc
    split at hc <;> (try (cases hc; done))
    rename_i id ops draw
    simp only [Bool.and_eq_true] at hc
    obtain ⟨rfl, hc⟩ := hc
    exact draw_sound hc (fun β s a w h hn hd hK => hQ .n β s a w h hn hd hK) h hn hd hw
  | seq p q ihp ihq =>
    intro c hc K Q hQ β s a w h hn hd hw
    unfold chkC at hc
    split at hc <;> (try (cases hc; done))
    simp only [Bool.and_eq_true] at hc
    refine wp_seq (ihp _ hc.1 _ _ (fun e β s a w h hn hd hK => ?_) β s a w h hn hd hw)
    cases e with
    | n => exact ihq _ hc.2 K Q hQ β s a w h hn hd hK
    | x id => exact hQ (.x id) β s a w h hn hd hK
    | r => exact hQ .r β s a w h hn hd hK
  | cond x p q ihp ihq =>
    intro c hc K Q hQ β s a w h hn hd hw
    unfold chkC at hc
    split at hc <;> (try (cases hc; done))
    simp only [Bool.and_eq_true] at hc
    obtain ⟨⟨h0, h1⟩, h2⟩ := hc
    have hR := ev_R h h0
    simp only [pwp] at hw
    split at hw
    · rename_i t ht
      rw [ht] at hR
      refine wp_cond_split (V.bool_inv hR) (fun e => ?_) fun e => ?_
      · exact ihp _ h1 K Q hQ β s a w h hn hd (hw.1 e)
      · exact ihq _ h2 K Q hQ β s a w h hn hd (hw.2 e)
    · exact hw.elim
  | block id p ih =>
    intro c hc K Q hQ β s a w h hn hd hw
    unfold chkC at hc
    split at hc <;> (try (cases hc; done))
    simp only [Bool.and_eq_true, decide_eq_true_eq] at hc
    obtain ⟨rfl, h1⟩ := hc
    refine wp_block (ih _ h1 _ _ (fun e β s a w h hn hd hK => ?_) β s a w h hn hd hw)
    cases e with
    | n => exact hQ .n β s a w h hn hd hK
    | x j =>
      simp only [Ex.blk] at hK
      simp only [exOf, Exit.inBlock]
      split at hK
      · rename_i hj; rw [if_pos hj]; exact hQ .n β s a w h hn hd hK
      · rename_i hj; rw [if_neg hj]; exact hQ (.x j) β s a w h hn hd hK
    | r => exact hQ .r β s a w h hn hd hK
  | loop p ih =>
    intro c hc K Q hQ β s a w h hn hd hw
    unfold chkC at hc
    split at hc <;> (try (cases hc; done))
    rename_i body
    have := hw (fun s => ∀ β a w, Sim O w0 A0 β s (tmf a) w → a.tmps.size = n → a.defers = [] → InLoop P body Q a w) (fun s hs β a w h hn hd => by
      refine inLoop_of (ih body hc _ _ (fun e β s a w h hn hd hK => ?_) β s a w h hn hd hs)
      cases e with
      | n => exact hK β a w h hn hd
      | x j => exact hQ (.x j) β s a w h hn hd hK
      | r => exact hQ .r β s a w h hn hd hK)
    intro b k cs
    obtain ⟨e, a', w', hq, harr⟩ := this β a w h hn hd b k cs
    exact ⟨e, a', w', hq, .of_steps (.one step_loop) harr⟩
  | exit id =>
    intro c hc K Q hQ β s a w h hn hd hw
    unfold chkC at hc
    split at hc <;> (try (cases hc; done))
    obtain rfl := of_decide_eq_true hc
    exact wp_exit (hQ (.x _) β s a w h hn hd hw)
  | ret =>
    intro c hc K Q hQ β s a w h hn hd hw
    unfold chkC at hc
    split at hc <;> (try (cases hc; done))
    exact wp_ret (hQ .r β s a w h hn hd hw)
  | fz i p ih =>
    intro c hc K Q hQ β s a w h hn hd hw
    unfold chkC at hc
    simp only [pwp] at hw
    split at hw
    · rename_i d ver off len hi
      split at hw
      · rename_i v hv
        exact ih c hc K Q hQ β _ a w (h.fz hi hv) hn hd hw
      · exact hw.elim
    · exact ih c hc K Q hQ β s a w h hn hd hw
    · exact hw.elim
  | rn i e p ih =>
    intro c hc K Q hQ β s a w h hn hd hw
    unfold chkC at hc
    simp only [pwp] at hw
    split at hw
    · rename_i d ver off len hi
      by_cases hde : d = e
      · exact ih c hc K Q hQ β s a w h hn hd (hw.1 hde)
      · have h2 := hw.2 hde
        split at h2
        · rename_i v sz es hb
          obtain ⟨⟨rfl, rfl, hl⟩, h2⟩ := h2
          exact ih c hc K Q hQ _ _ a w (h.rn hi hb hde hl) hn hd h2
        · exact h2.elim
    · exact hw.elim
  | fzc i k p ih =>
    intro c hc K Q hQ β s a w h hn hd hw
    unfold chkC at hc
    simp only [pwp] at hw
    split at hw
    · split at hw
      · rename_i v ps hb
        obtain ⟨_, hw⟩ := hw
        split at hw
        · rename_i e u off len hk
          obtain ⟨hed, hw⟩ := hw
          split at hw
          · rename_i cv hcv
            exact ih c hc K Q hQ β _ a w (h.fzc hb hk hed hcv) hn hd hw
          · exact hw.elim
        · exact ih c hc K Q hQ β s a w h hn hd hw
        · exact hw.elim
      · exact ih c hc K Q hQ β s a w h hn hd hw.2
      · exact hw.elim
    · exact hw.elim
  | rnc i k e p ih =>
    intro c hc K Q hQ β s a w h hn hd hw
    unfold chkC at hc
    simp only [pwp] at hw
    split at hw
    · split at hw
      · rename_i v ps hb
        obtain ⟨_, hde, hw⟩ := hw
        split at hw
        · rename_i g u off len hk
          by_cases hge : g = e
          · exact ih c hc K Q hQ β s a w h hn hd (hw.1 hge)
          · obtain ⟨hgd, h2⟩ := hw.2 hge
            split at h2
            · rename_i q sz es hbg
              obtain ⟨⟨rfl, rfl, hl⟩, h2⟩ := h2
              exact ih c hc K Q hQ _ _ a w (h.rnc hb hk hde hge hgd hbg hl) hn hd h2
            · exact h2.elim
        · exact ih c hc K Q hQ β s a w h hn hd hw
        · exact hw.elim
      · exact ih c hc K Q hQ β s a w h hn hd hw.2
      · exact hw.elim
    · exact hw.elim
  | nvp i p ih =>
    intro c hc K Q hQ β s a w h hn hd hw
    unfold chkC at hc
    simp only [pwp] at hw
    split at hw
    · split at hw
      · rename_i v ps hb
        obtain ⟨_, hw⟩ := hw
        split at hw
        · rename_i cs hcs
          exact ih c hc K Q hQ β _ a w (h.nvp hb hcs) hn hd hw
        · exact hw.elim
      · exact ih c hc K Q hQ β s a w h hn hd hw.2
      · exact hw.elim
    · exact hw.elim
end
end Go.Pl
/-
  A GO FUNCTION's CONTRACT OUT OF ITS PLAIN CODE. My own work.
-/
namespace Go.Pl
open Go
set_option linter.unusedVariables false
set_option linter.unusedSimpArgs false
inductive RS where
  | t (i : Nat)
  | cell (i : Nat) (f : Bool) (n : Nat)
  deriving Inhabited
def rsVal (s : PS) : RS → Option CV
  | .t i => s.close (s.t i)
  | .cell i f n => match s.t i with
    | .ptr d ver off => match s.bx d with
      | ⟨v, .var cs⟩ => if v = ver ∧ off + n ≤ cs.length then some (rdc f n (cs.drop off)) else none
      | _ => none
    | _ => none
def rsVals (s : PS) : List RS → Option (List CV)
  | [] => some []
  | r :: l => match rsVal s r, rsVals s l with
    | some v, some vs => some (v :: vs)
    | _, _ => none
def one_ : List CV → CV
  | [v] => v
  | l => .tup l
def Fin (rs : List RS) (r : RV) (s : PS) : Prop :=
  match r with
  | .c v => ∃ vals, rsVals s rs = some vals ∧ v = one_ vals
  | .own sz es => ∃ i d ver n, rs = [.t i] ∧ s.t i = .osl d ver 0 n ∧ s.bx d = ⟨ver, .sl sz es⟩ ∧ n = es.length
def FinK (rs : List RS) (r : RV) : Ex → PS → Prop
  | .x _, _ => False
  | _, s => Fin rs r s
def chkRes (P : Program) : List ResultVar → List RS → Bool
  | [], [] => true
  | .tmp t :: l, .t i :: m => decide (t = i) && chkRes P l m
  | .cell x t :: l, .cell i f n :: m => decide (x = i) && (match P.underlying t, P.info? t with
      | some d, some j => (d.isRow == f) && decide (j.size = n) && (f || decide (n = 1))
      | _, _ => false) && chkRes P l m
  | _, _ => false
def noIo : List AV → Bool
  | [] => true
  | .io _ :: _ => false
  | _ :: l => noIo l
section
variable {O : Nat → Prop} {A0 : Lent} {w0 w : World} {β : Bt} {s : PS} {a : Act} {P : Program}
def Nv (O : Nat → Prop) (β : Bt) (bx : Nat → Box) (b : Nat) : Prop := O b ∨ ∃ d base, (bx d).st.isv = true ∧ β d = some (b, base)
theorem isv_owned {st : BSt} (h : st.isv = true) : st.owned = true := by cases st <;> first | rfl | cases h
theorem Nv.nn {O : Nat → Prop} {β : Bt} {bx : Nat → Box} {b : Nat} (h : Nv O β bx b) : Nn O β bx b := by
  rcases h with h | ⟨d, base, h1, h2⟩
  · exact .inl h
  · exact .inr ⟨d, base, isv_owned h1, h2⟩
theorem close_V (h : Sim O w0 A0 β s (tmf a) w) {pv : PV} {v : Value} (hR : R w (Nn O β s.bx) β s.bx v pv) {c : CV} (hc : s.close pv = some c) {N' : Nat → Prop} (hN : ∀ b, N' b → Nv O β s.bx b) : V w N' v c := by
  unfold PS.close at hc
  split at hc
  · obtain rfl := Option.some.inj hc
    exact V.ext (.of_less fun b hb => (hN b hb).nn) hR
  · rename_i d ver off len
    split at hc
    · rename_i q sz es hb
      split at hc
      · rename_i hcond
        obtain ⟨rfl, rfl, hl⟩ := hcond
        obtain rfl := Option.some.inj hc
        have hB := h.boxes d
        rw [hb] at hB
        have hV := close_own h (d := d) (sz := sz) (es := es) (by rw [hb]) (hdr_of hR hb hl hB) q
        refine V.ext (.of_less fun b' hb' => ?_) hV
        rcases hN b' hb' with h1 | ⟨d', base, h1, h2⟩
        · exact .inl h1
        · refine .inr ⟨d', base, ?_, h2⟩
          by_cases e : d' = d
          · subst e; rw [hb] at h1; cases h1
          · simp only [PS.box, if_neg e]; exact isv_owned h1
      · cases hc
    · cases hc
  · cases hc
def rvf (a : Act) : ResultVar → Sem Value
  | .tmp t => pure (a.tmps.getD t undef)
  | .cell x t => do loadVar t (← asAddr (a.tmps.getD x undef))
theorem results_eq (fn : Func) (a : Act) : results fn a.tmps = (do let vs ← fn.results.mapM (rvf a); pure (if h : vs.size = 1 then vs[0] else .tuple vs)) := by
  unfold results
  congr 1
theorem result_V (h : Sim O w0 A0 β s (tmf a) w) {N' : Nat → Prop} (hN : ∀ b, N' b → Nv O β s.bx b) {rv : ResultVar} {r : RS} (hc : chkRes P [rv] [r] = true) {c : CV} (hv : rsVal s r = some c) :
    ∃ v, (rvf a rv).run P w = .ok v w ∧ V w N' v c := by
  cases rv with
  | tmp t =>
    cases r with
    | t i =>
      simp only [chkRes, Bool.and_eq_true, decide_eq_true_eq] at hc
      obtain ⟨rfl, _⟩ := hc
      exact ⟨_, rfl, close_V h (h.temps t) hv hN⟩
    | cell i f n => simp [chkRes] at hc
  | cell x t =>
    cases r with
    | t i => simp [chkRes] at hc
    | cell i f n =>
      simp only [chkRes, Bool.and_eq_true, decide_eq_true_eq] at hc
      obtain ⟨⟨rfl, hc⟩, _⟩ := hc
      split at hc <;> (try (cases hc; done))
      rename_i d j hu hi
      simp only [Bool.and_eq_true, Bool.or_eq_true, decide_eq_true_eq, beq_iff_eq] at hc
      obtain ⟨⟨h1, h2⟩, h3⟩ := hc
      simp only [rsVal] at hv
      split at hv
      · rename_i d' ver off ht
        split at hv
        · rename_i q cs hb
          split at hv
          · rename_i hcond
            obtain ⟨rfl, hl⟩ := hcond
            obtain rfl := Option.some.inj hv
            have hR := h.temps x
            rw [ht] at hR
            obtain ⟨b, base, hβ, he⟩ := hR.2 (by rw [hb]) (by rw [hb]; rfl)
            have hB := h.boxes d'
            rw [hb] at hB
            obtain ⟨b', base', hp', _, hcs⟩ := hB
            rw [hβ] at hp'
            obtain ⟨rfl, rfl⟩ := Prod.mk.inj (Option.some.inj hp')
            obtain ⟨v, hr, hV⟩ := run_load_cells (P := P) t d j hu hi h2 f h1 (fun e => h3.resolve_left (by rw [e]; simp)) (hcs.drop off) (by simp; omega)
            refine ⟨v, ?_, V.ext (.of_less fun b hb => (hN b hb).nn) hV⟩
            have he' : a.tmps.getD x undef = .pointer (some ⟨b, base + off, none⟩) := he
            simp only [Instr.loadAt, Instr.sureAddr, Sem.run_bind, Sem.run_pure, Result.andThen_ok] at hr
            simp only [rvf, he', asAddr, Sem.run_bind, Sem.run_pure, Result.andThen_ok, hr]
          · cases hv
        · cases hv
      · cases hv
theorem results_V (h : Sim O w0 A0 β s (tmf a) w) {N' : Nat → Prop} (hN : ∀ b, N' b → Nv O β s.bx b) : ∀ (rvs : List ResultVar) (rs : List RS) (cs : List CV), chkRes P rvs rs = true → rsVals s rs = some cs →
    ∃ vs : List Value, (rvs.mapM (rvf a)).run P w = .ok vs w ∧ vs.length = cs.length ∧ ∀ (i : Nat) (h1 : i < vs.length) (h2 : i < cs.length), V w N' vs[i] cs[i]
  | [], [], cs, _, hv => by
    obtain rfl := Option.some.inj hv
    exact ⟨[], by simp, rfl, fun i h => by simp at h⟩
  | [], _ :: _, _, hc, _ => by simp [chkRes] at hc
  | rv :: _, [], _, hc, _ => by cases rv <;> simp [chkRes] at hc
  | rv :: rvs, r :: rs, cs, hc, hv => by
    have hc1 : chkRes P [rv] [r] = true ∧ chkRes P rvs rs = true := by
      cases rv <;> cases r <;> simp only [chkRes, Bool.and_eq_true, reduceCtorEq, Bool.false_eq_true] at hc ⊢
      · exact ⟨⟨hc.1, trivial⟩, hc.2⟩
      · exact ⟨⟨hc.1, trivial⟩, hc.2⟩
    simp only [rsVals] at hv
    split at hv
    · rename_i c cs' hv1 hv2
      obtain rfl := Option.some.inj hv
      obtain ⟨v, hr, hV⟩ := result_V h hN hc1.1 hv1
      obtain ⟨vs, hrs, hl, hVs⟩ := results_V h hN rvs rs cs' hc1.2 hv2
      refine ⟨v :: vs, ?_, by simp [hl], fun i h1 h2 => ?_⟩
      · rw [List.mapM_cons]
        simp only [Sem.run_bind, hr, Result.andThen_ok, hrs, Sem.run_pure]
      · cases i with
        | zero => exact hV
        | succ i => exact hVs i (by simpa using h1) (by simpa using h2)
    · cases hv
theorem noIo_get : ∀ {args : List AV}, noIo args = true → ∀ (i : Nat) (cs : List CV), args[i]? ≠ some (AV.io cs)
  | [], _, i, cs => by simp
  | .c v :: l, h, 0, cs => by simp
  | .own sz es :: l, h, 0, cs => by simp
  | .io _ :: l, h, i, cs => by cases h
  | .c v :: l, h, i + 1, cs => by simpa using noIo_get (args := l) h i cs
  | .own sz es :: l, h, i + 1, cs => by simpa using noIo_get (args := l) h i cs
theorem ret_dead {args : List AV} (hno : noIo args = true) {r : RV} {outs : List (List CV)} {i : Nat} (hi : i ≠ args.length) : ((retPS args r outs).bx i).st = .dead := by
  simp only [retPS, if_neg hi]
  have := noIo_get hno i
  cases ha : args[i]? with
  | none => rfl
  | some av =>
    cases av with
    | io cs => exact absurd ha (this cs)
    | _ => rfl
theorem pcall {f : FuncId} {fn : Func} {c : Code} {pc : PCode} {rs : List RS} {args : List AV} {r : RV} (hf : P.funcs[f]? = some fn) (hb : fn.body = some c) (hc : chkC P fn.ntmps c pc = true) (hr : chkRes P fn.results.toList rs = true)
    (ha : args.length ≤ fn.ntmps) (hno : noIo args = true) (h : pwp (PCallG P) pc (initPS args) (FinK rs r)) : PCallG P f args r [] := by
  intro w O A β vs hsz hS
  refine calls_of_wp hf hb ?_
  have htm : tmf { tmps := vs ++ Array.replicate (fn.ntmps - vs.size) undef, defers := [] } = fun i => vs.getD i undef := by
    funext i
    simp only [tmf, Array.getD_eq_getD_getElem?]
    by_cases hi : i < vs.size
    · rw [Array.getElem?_append_left hi]
    · rw [Array.getElem?_append_right (by omega), Array.getElem?_eq_none (xs := vs) (by omega), Array.getElem?_replicate]
      split <;> rfl
  refine pwp_sound (O := O) (A0 := ⟨A, β⟩) (w0 := w) pc c hc (FinK rs r) _ (fun e β' s a w' hS' hn hd hK => ?_) β (initPS args) _ w (by rw [htm]; exact hS) (by simp; omega) rfl h
  have fin : Fin rs r s → a.defers = [] ∧ ∃ v, (results fn a.tmps).run P w' = .ok v w' ∧ ∃ v' β', Ending.returned v = .returned v' ∧ Sim O w ⟨A, β'⟩ β' (retPS args r []) (fun i => if i = args.length then v' else undef) w' ∧ ∀ i cs, args[i]? = some (.io cs) → β' i = β i := by
    intro hF
    refine ⟨hd, ?_⟩
    cases r with
    | c v =>
      obtain ⟨cs, hcs, rfl⟩ := hF
      obtain ⟨xs, hxs, hl, hV⟩ := results_V hS' (N' := O) (fun b hb => .inl hb) fn.results.toList rs cs hr hcs
      have hmap : (fn.results.mapM (rvf a)).run P w' = .ok xs.toArray w' := by
        rw [Array.mapM_eq_mapM_toList, Sem.run_map, hxs]
        rfl
      have hsim : ∀ v, V w' O v (one_ cs) → Sim O w ⟨A, fun _ => none⟩ (fun _ => none) (retPS args (.c (one_ cs)) []) (fun i => if i = args.length then v else undef) w' := by
        intro v hv
        have hdead : ∀ i, ((retPS args (.c (one_ cs)) []).bx i).st = .dead := by
          intro i
          by_cases hi : i = args.length
          · simp [retPS, hi]
          · exact ret_dead hno hi
        refine ⟨hS'.os, hS'.tape, hS'.output, hS'.size, hS'.keep, fun i => ?_, fun d => (by rw [hdead]; trivial), fun d d' p p' _ ho => (by rw [hdead] at ho; cases ho), fun d p ho => (by rw [hdead] at ho; cases ho), hS'.outer, fun d ps hd => (by rw [hdead] at hd; cases hd), fun d _ _ => rfl⟩
        by_cases hi : i = args.length
        · simp only [hi, if_true, retPS]
          exact V.ext (.of_less fun b hb => by
            rcases hb with hb | ⟨_, _, _, hb⟩
            · exact hb
            · cases hb) hv
        · simp only [if_neg hi, retPS]; trivial
      by_cases h1 : xs.length = 1
      · obtain ⟨x, rfl⟩ : ∃ x, xs = [x] := by
          cases xs with
          | nil => simp at h1
          | cons x l => cases l with
            | nil => exact ⟨x, rfl⟩
            | cons y l => simp at h1
        obtain ⟨c0, rfl⟩ : ∃ c0, cs = [c0] := by
          cases cs with
          | nil => simp at hl
          | cons c0 l => cases l with
            | nil => exact ⟨c0, rfl⟩
            | cons y l => simp at hl
        refine ⟨x, ?_, x, _, rfl, hsim x (hV 0 (by simp) (by simp)), fun i cs hi => absurd hi (noIo_get hno i cs)⟩
        rw [results_eq]
        simp only [Sem.run_bind]
        rw [hmap]
        rfl
      · refine ⟨.tuple xs.toArray, ?_, _, _, rfl, hsim _ ?_, fun i cs hi => absurd hi (noIo_get hno i cs)⟩
        · rw [results_eq]
          simp only [Sem.run_bind]
          rw [hmap]
          simp only [Result.andThen_ok, Sem.run_pure]
          rw [dif_neg (by simpa using h1)]
        · have : one_ cs = .tup cs := by
            cases cs with
            | nil => rfl
            | cons c0 l => cases l with
              | nil => simp at hl; omega
              | cons y l => rfl
          rw [this]
          exact V.tup _ _ (by simpa using hl) (fun i h1 h2 => by have := hV i (by simpa using h1) h2; simpa using this)
    | own sz es =>
      obtain ⟨i, d, ver, n, rfl, ht, hbx, hn'⟩ := hF
      have hrs : ∃ t, fn.results.toList = [.tmp t] ∧ t = i := by
        cases hq : fn.results.toList with
        | nil => rw [hq] at hr; simp [chkRes] at hr
        | cons rv l =>
          rw [hq] at hr
          cases rv with
          | cell x t => simp [chkRes] at hr
          | tmp t =>
            simp only [chkRes, Bool.and_eq_true, decide_eq_true_eq] at hr
            cases l with
            | nil => exact ⟨t, rfl, hr.1⟩
            | cons _ _ => simp [chkRes] at hr
      obtain ⟨t, hres, rfl⟩ := hrs
      have hR := hS'.temps t
      rw [ht] at hR
      have hB := hS'.boxes d
      rw [hbx] at hB
      have hH := hdr_of hR hbx hn' hB
      have howned : (s.bx d).st.owned = true := by rw [hbx]; rfl
      have hbl : (retPS args (.own sz es) []).bx args.length = ⟨0, .sl sz es⟩ := by simp [retPS]
      have hless : ∀ b, Nn O (fun i => if i = args.length then β' d else none) (retPS args (.own sz es) []).bx b → Nn O β' s.bx b := by
        rintro b (hb | ⟨j, base, ho, hj⟩)
        · exact .inl hb
        · by_cases e : j = args.length
          · subst e; simp only [if_true] at hj; exact .inr ⟨d, base, howned, hj⟩
          · simp only [if_neg e] at hj; cases hj
      refine ⟨a.tmps.getD t undef, ?_, _, fun i => if i = args.length then β' d else none, rfl, ?_, fun i cs hi => absurd hi (noIo_get hno i cs)⟩
      · have hres' : fn.results = #[.tmp t] := by
          have := congrArg List.toArray hres
          simpa using this
        rw [results_eq]
        rw [hres']
        simp [Sem.run_bind, rvf]
      · refine ⟨hS'.os, hS'.tape, hS'.output, hS'.size, hS'.keep, fun j => ?_, fun j => ?_, fun j k p q hjk hj hk hp hq => ?_, fun j p hj hp => ?_, hS'.outer, fun j ps hj => ?_, fun j _ _ => rfl⟩
        · by_cases e : j = args.length
          · subst e
            simp only [if_true]
            have htl : (retPS args (.own sz es) []).t args.length = .osl args.length 0 0 es.length := by simp [retPS]
            rw [htl]
            refine ⟨⟨Nat.zero_le _, hH.one⟩, fun _ sz2 es2 hs2 => ⟨rfl, ?_⟩⟩
            rw [hbl] at hs2
            cases hs2
            simp only [if_true]
            rcases hH with ⟨h1, h2, h3⟩ | ⟨b, cap, h1, h2, h3, h4⟩
            · exact .inl ⟨h1, h2, by rw [h3]; rfl⟩
            · exact .inr ⟨b, cap, h1, h2, h3, h4⟩
          · have htl : (retPS args (.own sz es) []).t j = .junk := by simp [retPS, e]
            rw [htl]
            trivial
        · by_cases e : j = args.length
          · subst e
            rw [hbl]
            simp only [if_true]
            refine ⟨hB.1, ?_⟩
            rcases hB.2 with hb | ⟨b, hp, ho, hcc⟩
            · exact .inl hb
            · exact .inr ⟨b, hp, ho, fun i hi => (hcc i hi).ext (.of_less hless) rfl⟩
          · rw [ret_dead hno e]; trivial
        · by_cases e : j = args.length
          · by_cases e' : k = args.length
            · exact absurd (e.trans e'.symm) hjk
            · rw [ret_dead hno e'] at hk; cases hk
          · rw [ret_dead hno e] at hj; cases hj
        · by_cases e : j = args.length
          · simp only [if_pos e] at hp; exact hS'.out d p howned hp
          · rw [ret_dead hno e] at hj; cases hj
        · by_cases e : j = args.length
          · subst e; rw [hbl] at hj; cases hj
          · rw [ret_dead hno e] at hj; cases hj
  cases e with
  | n => exact fin hK
  | x id => exact hK.elim
  | r => exact fin hK
def chkF (P : Program) (fn : Func) (np : Nat) (pc : PCode) (rs : List RS) : Bool :=
  match fn.body with
  | some c => chkC P fn.ntmps c pc && (chkRes P fn.results.toList rs && Nat.ble np fn.ntmps)
  | none => false
theorem pcallF {f : FuncId} {fn : Func} {pc : PCode} {rs : List RS} {args : List AV} {r : RV} (hf : P.funcs[f]? = some fn) (hc : chkF P fn args.length pc rs = true) (hno : noIo args = true)
    (h : wP (PCallG P) pc (initPS args) (FinK rs r)) : PCallG P f args r [] := by
  unfold chkF at hc
  split at hc
  · rename_i c hb
    simp only [Bool.and_eq_true] at hc
    exact pcall hf hb hc.1 hc.2.1 (Nat.le_of_ble_eq_true hc.2.2) hno (by simpa only [wP] using h)
  · cases hc
theorem rv_nil {s : PS} : rsVals s [] = some [] := rfl
theorem rv_t {s : PS} {i : Nat} {v : CV} {l : List RS} {vs : List CV} (h : s.close (s.t i) = some v) (hl : rsVals s l = some vs) : rsVals s (.t i :: l) = some (v :: vs) := by
  simp only [rsVals, rsVal, h, hl]
theorem rv_own {s : PS} {i d ver n sz : Nat} {es : List (List CV)} {l : List RS} {vs : List CV} (h : s.t i = .osl d ver 0 n) (hb : s.bx d = ⟨ver, .sl sz es⟩) (hn : n = es.length) (hl : rsVals s l = some vs) : rsVals s (.t i :: l) = some (.sl es :: vs) := by
  simp only [rsVals, rsVal, PS.close, h, hb, true_and, if_pos hn, hl]
theorem rv_cell {s : PS} {i d ver off n : Nat} {f : Bool} {cs : List CV} {v : CV} {l : List RS} {vs : List CV} (h : s.t i = .ptr d ver off) (hb : s.bx d = ⟨ver, .var cs⟩) (hn : Nat.ble (off + n) cs.length = true) (hv : rdc f n (cs.drop off) = v)
    (hl : rsVals s l = some vs) : rsVals s (.cell i f n :: l) = some (v :: vs) := by
  subst hv
  simp only [rsVals, rsVal, h, hb, true_and, if_pos (Nat.le_of_ble_eq_true hn), hl]
theorem fin_r {rs : List RS} {vals : List CV} {v : CV} {s : PS} (h : rsVals s rs = some vals) (e : v = one_ vals) : FinK rs (.c v) .r s := ⟨vals, h, e⟩
theorem fin_own {i d ver n : Nat} {sz : Nat} {es : List (List CV)} {s : PS} (h : s.t i = .osl d ver 0 n) (hb : s.bx d = ⟨ver, .sl sz es⟩) (hn : n = es.length) : FinK [.t i] (.own sz es) .r s := ⟨i, d, ver, n, rfl, h, hb, hn⟩
end
end Go.Pl

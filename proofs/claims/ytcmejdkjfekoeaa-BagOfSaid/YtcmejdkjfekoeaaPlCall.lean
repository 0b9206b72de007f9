/-
  A CALL OF A GO FUNCTION, AS PLAIN STATES HAVE IT. My own work.
-/
import Derived.Test.YtcmejdkjfekoeaaPlChk
import Derived.Orders
namespace Go.Pl
open Go
set_option linter.unusedVariables false

def initPS (args : List AV) : PS where
  t := fun i => match args[i]? with
    | some (.c v) => .c v
    | some (.own _ es) => .osl i 0 0 es.length
    | some (.io _) => .ptr i 0 0
    | none => .undef
  bx := fun i => match args[i]? with
    | some (.own sz es) => ⟨0, .sl sz es⟩
    | some (.io cs) => ⟨0, .var cs⟩
    | _ => ⟨0, .dead⟩

def retPS (args : List AV) (r : RV) (outs : List (List CV)) : PS where
  t := fun i => if i = args.length then (match r with
    | .c v => .c v
    | .own _ es => .osl i 0 0 es.length) else .junk
  bx := fun i => if i = args.length then (match r with
    | .own sz es => ⟨0, .sl sz es⟩
    | .c _ => ⟨0, .dead⟩) else match args[i]? with
    | some (.io _) => ⟨0, .var (outs.headD [])⟩
    | _ => ⟨0, .dead⟩

/-- Called with values that read as 'args', function 'f' returns what reads as 'r', whatever lies in memory; nothing that stood has turned but what was handed over or lent. -/
def PCallG (P : Program) : CallP := fun f args r outs =>
  ∀ (w : World) (O A : Nat → Prop) (β : Bt) (vs : Array Value), vs.size = args.length → Sim O w A β (initPS args) (fun i => vs.getD i undef) w →
    Calls P f vs w fun e w' => ∃ v β', e = .returned v ∧ Sim O w A β' (retPS args r outs) (fun i => if i = args.length then v else undef) w' ∧ ∀ i cs, args[i]? = some (.io cs) → β' i = β i

section
variable {O A0 : Nat → Prop} {w0 w : World} {β : Bt} {s : PS} {a : Act} {P : Program}

theorem Nn_initC {O : Nat → Prop} {β : Bt} {cs : List CV} {b : Nat} (h : Nn O β (initPS (cs.map .c)).bx b) : O b := by
  rcases h with h | ⟨i, base, ho, _⟩
  · exact h
  · simp only [initPS, List.getElem?_map] at ho
    cases hc : cs[i]? <;> rw [hc] at ho <;> cases ho

/-- a plain frame whose all arguments are closed, seen from its caller -/
theorem sim_initC (h : Sim O w0 A0 β s (tmf a) w) {cs : List CV} {vs : Array Value} (hl : vs.size = cs.length) (hV : ∀ (i : Nat) (h1 : i < vs.size) (h2 : i < cs.length), V w (Nn O β s.bx) vs[i] cs[i]) :
    Sim (Nn O β s.bx) w (fun _ => False) (fun _ => none) (initPS (cs.map .c)) (fun i => vs.getD i undef) w := by
  have hno : ∀ i, ((initPS (cs.map AV.c)).bx i).st.owned = false := by
    intro i
    simp only [initPS, List.getElem?_map]
    cases hc : cs[i]? <;> rfl
  have hext : Ext w (Nn O β s.bx) w (Nn (Nn O β s.bx) (fun _ => none) (initPS (cs.map AV.c)).bx) := .of_less fun b hb => Nn_initC hb
  refine ⟨rfl, rfl, rfl, Nat.le_refl _, fun _ _ _ => rfl, fun i => ?_, fun d => ?_, fun d d' p p' _ ho => (by rw [hno d] at ho; cases ho), fun d p ho => (by rw [hno d] at ho; cases ho), fun b hb => ⟨?_, fun h => h⟩⟩
  · by_cases hi : i < cs.length
    · have : (initPS (cs.map AV.c)).t i = .c cs[i] := by simp [initPS, hi]
      rw [this]
      have hv : vs.getD i undef = vs[i]'(by omega) := by simp [show i < vs.size by omega]
      rw [hv]
      exact (hV i (by omega) hi).ext hext
    · have : (initPS (cs.map AV.c)).t i = .undef := by simp [initPS, hi]
      rw [this]
      show vs.getD i undef = undef
      simp [show ¬ i < vs.size by omega]
  · have : ((initPS (cs.map AV.c)).bx d).st = .dead := by
      simp only [initPS, List.getElem?_map]
      cases hc : cs[d]? <;> rfl
    rw [this]
    trivial
  · rcases hb with hb | ⟨i, base, ho, hi⟩
    · have := (h.outer b hb).1; have := h.size; omega
    · exact (h.out i _ ho hi).2.1

/-- what a caller has of it behind the call -/
theorem back_C (h : Sim O w0 A0 β s (tmf a) w) {cs : List CV} {r : CV} {outs : List (List CV)} {v : Value} {w' : World} {β' : Bt} (hS : Sim (Nn O β s.bx) w (fun _ => False) β' (retPS (cs.map .c) (.c r) outs) (fun i => if i = (cs.map AV.c).length then v else undef) w') :
    Sim O w0 A0 β s (tmf a) w' ∧ V w' (Nn O β s.bx) v r := by
  have hg := h.grow (w' := w') hS.os hS.tape hS.output hS.size fun b hb => hS.keep b hb fun h => h
  refine ⟨hg, ?_⟩
  have ht := hS.temps (cs.map AV.c).length
  simp only [retPS, if_true] at ht
  refine V.ext (.of_less fun b hb => .inl hb) ht
/-- what is others', where box 'd0' is handed over -/
def Oc (O : Nat → Prop) (β : Bt) (bx : Nat → Box) (d0 : Nat) (b : Nat) : Prop := O b ∨ ∃ d base, d ≠ d0 ∧ (bx d).st.owned = true ∧ β d = some (b, base)

theorem Nn_Oc {O : Nat → Prop} {β : Bt} {bx : Nat → Box} {d0 b : Nat} (h : Nn O β bx b) : Oc O β bx d0 b ∨ ∃ base, (bx d0).st.owned = true ∧ β d0 = some (b, base) := by
  rcases h with h | ⟨d, base, ho, hb⟩
  · exact .inl (.inl h)
  · by_cases e : d = d0
    · subst e; exact .inr ⟨base, ho, hb⟩
    · exact .inl (.inr ⟨d, base, e, ho, hb⟩)

def headSt : AV → BSt
  | .own sz es => .sl sz es
  | .io cs => .var cs
  | .c _ => .dead

theorem init_bx (av : AV) (cs : List CV) (i : Nat) : ((initPS (av :: cs.map .c)).bx i).st = if i = 0 then headSt av else .dead := by
  cases i with
  | zero => cases av <;> rfl
  | succ i =>
    simp only [initPS, List.getElem?_cons_succ, List.getElem?_map]
    cases hc : cs[i]? <;> rfl

theorem Nn_init1 {O : Nat → Prop} {bx : Nat → Box} {d0 : Nat} {av : AV} {cs : List CV} {b : Nat} (ho : (bx d0).st.owned = true)
    (h : Nn (Oc O β bx d0) (fun i => if i = 0 then β d0 else none) (initPS (av :: cs.map .c)).bx b) : Nn O β bx b := by
  rcases h with (h | ⟨d, base, _, h1, h2⟩) | ⟨i, base, hi, hb⟩
  · exact .inl h
  · exact .inr ⟨d, base, h1, h2⟩
  · rw [init_bx] at hi
    by_cases e : i = 0
    · subst e; simp only [if_true] at hb; exact .inr ⟨d0, base, ho, hb⟩
    · simp only [if_neg e] at hi; cases hi

/-- a plain frame whose first argument is handed over or lent, seen from its caller -/
theorem sim_init1 (h : Sim O w0 A0 β s (tmf a) w) {d0 : Nat} {av : AV} (hst : (s.bx d0).st = headSt av) (ho : (s.bx d0).st.owned = true) {cs : List CV} {v0 : Value} {vs : List Value} (hl : vs.length = cs.length)
    (hV : ∀ (i : Nat) (h1 : i < vs.length) (h2 : i < cs.length), V w (Nn O β s.bx) vs[i] cs[i])
    (hR : R w (Nn (Oc O β s.bx d0) (fun i => if i = 0 then β d0 else none) (initPS (av :: cs.map .c)).bx) (fun i => if i = 0 then β d0 else none) (initPS (av :: cs.map .c)).bx v0 ((initPS (av :: cs.map .c)).t 0)) :
    Sim (Oc O β s.bx d0) w (fun b => ∃ base, β d0 = some (b, base)) (fun i => if i = 0 then β d0 else none) (initPS (av :: cs.map .c)) (fun i => (v0 :: vs).toArray.getD i undef) w := by
  have hext : Ext w (Nn O β s.bx) w (Nn (Oc O β s.bx d0) (fun i => if i = 0 then β d0 else none) (initPS (av :: cs.map .c)).bx) := .of_less fun b hb => Nn_init1 ho hb
  have hown : ∀ i, ((initPS (av :: cs.map .c)).bx i).st.owned = true → i = 0 := by
    intro i hi
    rw [init_bx] at hi
    by_cases e : i = 0
    · exact e
    · simp only [if_neg e] at hi; cases hi
  refine ⟨rfl, rfl, rfl, Nat.le_refl _, fun _ _ _ => rfl, fun i => ?_, fun d => ?_, fun d d' p p' hdd hod hod' => absurd ((hown d hod).trans (hown d' hod').symm) hdd, fun d p hod hp => ?_, fun b hb => ⟨?_, ?_⟩⟩
  · cases i with
    | zero => simpa using hR
    | succ i =>
      by_cases hi : i < cs.length
      · have : (initPS (av :: cs.map AV.c)).t (i + 1) = .c cs[i] := by simp [initPS, hi]
        rw [this]
        have hv : (v0 :: vs).toArray.getD (i + 1) undef = vs[i]'(by omega) := by simp [show i < vs.length by omega]
        rw [hv]
        exact (hV i (by omega) hi).ext hext
      · have : (initPS (av :: cs.map AV.c)).t (i + 1) = .undef := by simp [initPS, hi]
        rw [this]
        show (v0 :: vs).toArray.getD (i + 1) undef = undef
        simp [show ¬ i < vs.length by omega]
  · rw [init_bx]
    by_cases e : d = 0
    · subst e
      simp only [if_true]
      have hB := h.boxes d0
      rw [hst] at hB
      cases av with
      | c _ => trivial
      | own sz es =>
        refine ⟨hB.1, ?_⟩
        rcases hB.2 with hb | ⟨b, hp, ho, hc⟩
        · exact .inl hb
        · exact .inr ⟨b, hp, ho, fun i hi => (hc i hi).ext hext rfl⟩
      | io c0 =>
        obtain ⟨b, base, hp, ho, hc⟩ := hB
        exact ⟨b, base, hp, ho, hc.ext hext rfl⟩
    · simp only [if_neg e]; trivial
  · have e := hown d hod
    subst e
    simp only [if_true] at hp
    have := h.out d0 p ho hp
    refine ⟨?_, this.2.1, fun _ => ⟨p.2, hp⟩⟩
    rintro (hn | ⟨d', base, hne, ho', hb'⟩)
    · exact this.1 hn
    · exact h.inj d' d0 _ p hne ho' ho hb' hp rfl
  · rcases hb with hb | ⟨d, base, _, hod, hbd⟩
    · have := (h.outer b hb).1; have := h.size; omega
    · exact (h.out d _ hod hbd).2.1
  · rintro ⟨base, hβ⟩
    rcases hb with hb | ⟨d, base', hne, hod, hbd⟩
    · exact (h.out d0 _ ho hβ).1 hb
    · exact h.inj d d0 _ _ hne hod ho hbd hβ rfl

theorem ret_bx (av : AV) (cs : List CV) (r : RV) (outs : List (List CV)) (i : Nat) : ((retPS (av :: cs.map .c) r outs).bx i).st =
    if i = cs.length + 1 then (match r with | .own sz es => .sl sz es | .c _ => .dead) else if i = 0 then (match av with | .io _ => .var (outs.headD []) | _ => .dead) else .dead := by
  simp only [retPS, List.length_cons, List.length_map]
  by_cases e : i = cs.length + 1
  · simp only [if_pos e]; cases r <;> rfl
  · simp only [if_neg e]
    cases i with
    | zero => cases av <;> rfl
    | succ i =>
      simp only [List.getElem?_cons_succ, List.getElem?_map]
      cases hc : cs[i]? <;> rfl

/-- blocks behind the call -/
theorem back_keep {av : AV} {cs : List CV} {r : RV} {outs : List (List CV)} {d0 : Nat} {w' : World} {β' : Bt} {tm : Nat → Value}
    (hS : Sim (Oc O β s.bx d0) w (fun b => ∃ base, β d0 = some (b, base)) β' (retPS (av :: cs.map .c) r outs) tm w') (ho : (s.bx d0).st.owned = true) :
    ∀ b, b < w.heap.size → (∀ p, (s.bx d0).st.owned = true → β d0 = some p → b ≠ p.1) → w'.heap[b]? = w.heap[b]? :=
  fun b hb hne => hS.keep b hb (by rintro ⟨base, hβ⟩; exact hne _ ho hβ rfl)

/-- a variable was lent -/
theorem back_io (h : Sim O w0 A0 β s (tmf a) w) {c0 c1 : List CV} {cs : List CV} {r : CV} {d0 ver : Nat} {v : Value} {w' : World} {β' : Bt} (hb : s.bx d0 = ⟨ver, .var c0⟩)
    (hS : Sim (Oc O β s.bx d0) w (fun b => ∃ base, β d0 = some (b, base)) β' (retPS (.io c0 :: cs.map .c) (.c r) [c1]) (fun i => if i = (AV.io c0 :: cs.map AV.c).length then v else undef) w') (hβ' : β' 0 = β d0) :
    Sim O w0 A0 β (s.box d0 ⟨ver, .var c1⟩) (tmf a) w' ∧ V w' (Nn O β (s.box d0 ⟨ver, .var c1⟩).bx) v r := by
  have ho : (s.bx d0).st.owned = true := by rw [hb]; rfl
  have e0 : (fun i => if i = d0 then β d0 else β i) = β := by funext i; split <;> simp_all
  have hless : ∀ b, Nn O β (s.box d0 ⟨ver, .var c1⟩).bx b → Nn (Oc O β s.bx d0) β' (retPS (.io c0 :: cs.map .c) (.c r) [c1]).bx b := by
    rintro b (hn | ⟨i, base, hi, hbi⟩)
    · exact .inl (.inl hn)
    · by_cases e : i = d0
      · subst e
        exact .inr ⟨0, base, by rw [ret_bx]; simp [BSt.owned], by rw [hβ']; exact hbi⟩
      · simp only [PS.box, if_neg e] at hi; exact .inl (.inr ⟨i, base, e, hi, hbi⟩)
  have hB := hS.boxes 0
  rw [ret_bx] at hB
  simp only [Nat.zero_ne_add_one, if_false, if_true, List.headD_cons] at hB
  obtain ⟨b, base, hp, hown, hc⟩ := hB
  rw [hβ'] at hp
  have hch := h.change (w' := w') d0 (β d0) ⟨ver, .var c1⟩ hS.os hS.tape hS.output hS.size (back_keep hS ho)
    (.inr ⟨by rw [hb], .inr ⟨rfl, fun cs _ => ⟨c0, by rw [hb]⟩, fun cs hcs => (by cases hcs), fun sz es hs => (by cases hs)⟩⟩)
    (fun p _ hp => .inl ⟨ho, p, hp, rfl⟩) ⟨b, base, hp, hown, hc.ext (.of_less (by rw [e0]; exact hless)) rfl⟩
  rw [e0] at hch
  refine ⟨hch, ?_⟩
  have ht := hS.temps (AV.io c0 :: cs.map AV.c).length
  simp only [retPS, if_true] at ht
  exact V.ext (.of_less hless) ht

/-- a slice was handed over, what comes back is closed -/
theorem back_ownC (h : Sim O w0 A0 β s (tmf a) w) {cs : List CV} {r : CV} {d0 ver sz : Nat} {es : List (List CV)} {v : Value} {w' : World} {β' : Bt} (hb : s.bx d0 = ⟨ver, .sl sz es⟩)
    (hS : Sim (Oc O β s.bx d0) w (fun b => ∃ base, β d0 = some (b, base)) β' (retPS (.own sz es :: cs.map .c) (.c r) []) (fun i => if i = (AV.own sz es :: cs.map AV.c).length then v else undef) w') :
    Sim O w0 A0 β (s.box d0 ⟨ver + 1, .dead⟩) (tmf a) w' ∧ V w' (Nn O β (s.box d0 ⟨ver + 1, .dead⟩).bx) v r := by
  have ho : (s.bx d0).st.owned = true := by rw [hb]; rfl
  have e0 : (fun i => if i = d0 then β d0 else β i) = β := by funext i; split <;> simp_all
  have hless : ∀ b, Nn O β (s.box d0 ⟨ver + 1, .dead⟩).bx b → Nn (Oc O β s.bx d0) β' (retPS (.own sz es :: cs.map .c) (.c r) []).bx b := by
    rintro b (hn | ⟨i, base, hi, hbi⟩)
    · exact .inl (.inl hn)
    · by_cases e : i = d0
      · simp only [PS.box, if_pos e] at hi; cases hi
      · simp only [PS.box, if_neg e] at hi; exact .inl (.inr ⟨i, base, e, hi, hbi⟩)
  have hch := h.change (w' := w') d0 (β d0) ⟨ver + 1, .dead⟩ hS.os hS.tape hS.output hS.size (back_keep hS ho) (.inl (by rw [hb]; exact Nat.lt_succ_self _)) (fun p ho _ => by cases ho) trivial
  rw [e0] at hch
  refine ⟨hch, ?_⟩
  have ht := hS.temps (AV.own sz es :: cs.map AV.c).length
  simp only [retPS, if_true] at ht
  exact V.ext (.of_less hless) ht

/-- a slice was handed over, another one comes back -/
theorem back_ownO (h : Sim O w0 A0 β s (tmf a) w) {cs : List CV} {d0 ver sz sz' : Nat} {es zs : List (List CV)} {v : Value} {w' : World} {β' : Bt} (hb : s.bx d0 = ⟨ver, .sl sz es⟩)
    (hS : Sim (Oc O β s.bx d0) w (fun b => ∃ base, β d0 = some (b, base)) β' (retPS (.own sz es :: cs.map .c) (.own sz' zs) []) (fun i => if i = (AV.own sz es :: cs.map AV.c).length then v else undef) w')
    {e : Nat} (he : e < a.tmps.size) : ∃ β2, Sim O w0 A0 β2 ((s.box d0 ⟨ver + 1, .dead⟩).putR (some e) (.own sz' zs)) (tmf (a.put (some e) v)) w' := by
  have ho : (s.bx d0).st.owned = true := by rw [hb]; rfl
  have hlen : (AV.own sz es :: cs.map AV.c).length = cs.length + 1 := by simp
  rw [hlen] at hS
  have hless : ∀ q b, Nn O (fun i => if i = d0 then β' (cs.length + 1) else β i) (s.box d0 ⟨q, .sl sz' zs⟩).bx b → Nn (Oc O β s.bx d0) β' (retPS (.own sz es :: cs.map .c) (.own sz' zs) []).bx b := by
    rintro q b (hn | ⟨i, base, hi, hbi⟩)
    · exact .inl (.inl hn)
    · by_cases e : i = d0
      · subst e
        simp only [if_true] at hbi
        exact .inr ⟨cs.length + 1, base, by rw [ret_bx]; simp [BSt.owned], hbi⟩
      · simp only [PS.box, if_neg e] at hi; simp only [if_neg e] at hbi; exact .inl (.inr ⟨i, base, e, hi, hbi⟩)
  have hB := hS.boxes (cs.length + 1)
  rw [ret_bx] at hB
  simp only [if_true] at hB
  have hout := hS.out (cs.length + 1)
  rw [ret_bx] at hout
  simp only [if_true] at hout
  -- the box in its old place
  have stage : ∀ q, ver < q → Sim O w0 A0 (fun i => if i = d0 then β' (cs.length + 1) else β i) (s.box d0 ⟨q, .sl sz' zs⟩) (tmf a) w' := by
    intro q hq
    refine h.change (w' := w') d0 (β' (cs.length + 1)) ⟨q, .sl sz' zs⟩ hS.os hS.tape hS.output hS.size (back_keep hS ho) (.inl (by rw [hb]; exact hq)) ?_ ?_
    · intro p _ hp
      have := hout p rfl hp
      by_cases hlt : p.1 < w.heap.size
      · obtain ⟨base, hβ⟩ := this.2.2 hlt
        exact .inl ⟨ho, _, hβ, rfl⟩
      · exact .inr ⟨by omega, this.2.1⟩
    · refine ⟨hB.1, ?_⟩
      rcases hB.2 with hb' | ⟨b, hp, ho', hc⟩
      · exact .inl hb'
      · exact .inr ⟨b, hp, ho', fun i hi => (hc i hi).ext (.of_less (hless q)) rfl⟩
  have ht := hS.temps (cs.length + 1)
  simp only [retPS, List.length_cons, List.length_map, if_true] at ht
  have hH : Hdr w' (β' (cs.length + 1)) sz' zs v := by
    obtain ⟨_, hor⟩ := ht.2 (by simp) sz' zs (by simp)
    rcases hor with ⟨h1, h2, h3⟩ | ⟨b, cap, h1, h2, h3, h4⟩
    · exact .inl ⟨h1, h2, List.eq_nil_of_length_eq_zero h3⟩
    · exact .inr ⟨b, cap, h1, h2, h3, h4⟩
  have hHp : ∀ (d : Nat) (β2 : Bt) (bx2 : Nat → Box) (N : Nat → Prop) (q : Nat), bx2 d = ⟨q, .sl sz' zs⟩ → β2 d = β' (cs.length + 1) → R w' N β2 bx2 v (.osl d q 0 zs.length) := by
    intro d β2 bx2 N q hbx hβ
    refine ⟨by rw [hbx]; exact Nat.le_refl _, fun _ sz2 es2 hs2 => ⟨rfl, ?_⟩⟩
    rw [hbx] at hs2
    cases hs2
    rcases hH with ⟨h1, h2, h3⟩ | ⟨b, cap, h1, h2, h3, h4⟩
    · exact .inl ⟨hβ.trans h1, h2, by rw [h3]; rfl⟩
    · exact .inr ⟨b, cap, hβ.trans h1, h2, h3, h4⟩
  by_cases hde : d0 = e
  · subst hde
    have hst := stage (ver + 1 + 1) (by omega)
    have e1 : (s.box d0 ⟨ver + 1, .dead⟩).putR (some d0) (.own sz' zs) = (s.box d0 ⟨ver + 1 + 1, .sl sz' zs⟩).put d0 (.osl d0 (ver + 1 + 1) 0 zs.length) := by
      simp only [PS.putR, box_box]
      simp [PS.box]
    rw [e1, tmf_put _ he]
    exact ⟨_, hst.put d0 _ v (hHp d0 _ _ _ _ (by simp [PS.box]) (by simp))⟩
  · have hst := (stage (ver + 1) (by omega)).move (d := d0) (e := e) (sz := sz') (es := zs) hde (by simp [PS.box])
    have e1 : ((s.box d0 ⟨ver + 1, .sl sz' zs⟩).box d0 ⟨((s.box d0 ⟨ver + 1, .sl sz' zs⟩).bx d0).ver, .dead⟩) = s.box d0 ⟨ver + 1, .dead⟩ := by rw [box_box]; simp [PS.box]
    have e2 : ((s.box d0 ⟨ver + 1, .sl sz' zs⟩).bx e).ver = (s.bx e).ver := by simp [PS.box, Ne.symm hde]
    rw [e1, e2] at hst
    have e3 : (s.box d0 ⟨ver + 1, .dead⟩).putR (some e) (.own sz' zs) = ((s.box d0 ⟨ver + 1, .dead⟩).box e ⟨(s.bx e).ver + 1, .sl sz' zs⟩).put e (.osl e ((s.bx e).ver + 1) 0 zs.length) := by
      simp only [PS.putR]
      have : ((s.box d0 ⟨ver + 1, .dead⟩).bx e) = s.bx e := by simp [PS.box, Ne.symm hde]
      rw [this]
    rw [e3, tmf_put _ he]
    exact ⟨_, hst.put e _ v (hHp e _ _ _ _ (by simp [PS.box]) (by simp))⟩
end
end Go.Pl

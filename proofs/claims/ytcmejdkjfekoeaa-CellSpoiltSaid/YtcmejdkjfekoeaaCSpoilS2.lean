/- Part of the proof of CellSpoilt: lemmas. -/
import Derived.Test.YtcmejdkjfekoeaaCSpoilS1
import Derived.Laws.Cells
import Derived.Laws.CopyRow
import Derived.Laws.Entries
import Derived.Deep.MidRow
import Derived.AtR
import Derived.Laws.Tables
import Derived.Laws.Build
import Derived.ChangeKeysEq
import Derived.WideLaws
set_option linter.unusedVariables false
set_option linter.unusedSimpArgs false
/-
  WHAT A PLAIN STATE SAYS OF A FRAME AND A WORLD: closed values read in memory that nobody writes; boxes are blocks of the frame's own. My own work.
-/
namespace Go.Pl
inductive V (w : World) (N : Nat → Prop) : Value → CV → Prop where
  | int (k : IntKind) (n : Int) : V w N (.int k n) (.int k n)
  | bool (b : Bool) : V w N (.bool b) (.bool b)
  | str (s : ByteArray) : V w N (.string s) (.str s)
  | nilp : V w N (.pointer none) .nilp
  | nili : V w N .nilIface .nili
  | nilf : V w N .nilFunc .nilf
  | iface (t : TypeId) (v : Value) (c : CV) (h : V w N v c) : V w N (.iface t v) (.iface t c)
  | agg (vs : Array Value) (cs : List CV) (hl : vs.size = cs.length) (h1 : ∀ c ∈ cs, c.one = true)
      (h : ∀ (i : Nat) (h1 : i < vs.size) (h2 : i < cs.length), V w N vs[i] cs[i]) : V w N (.agg vs) (.agg cs)
  | tup (vs : Array Value) (cs : List CV) (hl : vs.size = cs.length)
      (h : ∀ (i : Nat) (h1 : i < vs.size) (h2 : i < cs.length), V w N vs[i] cs[i]) : V w N (.tuple vs) (.tup cs)
  | fn (f : Fn) (vs : Array Value) (cs : List CV) (hl : vs.size = cs.length)
      (h : ∀ (i : Nat) (h1 : i < vs.size) (h2 : i < cs.length), V w N vs[i] cs[i]) : V w N (.func f #[] vs) (.fn f cs)
  | clo (f : FuncId) (b : Nat) (v : Value) (c : CV) (hb : b < w.heap.size) (hN : ¬ N b) (hr : w.cell? ⟨b, 0, none⟩ = some v) (h : V w N v c) : V w N (.func (.func f) #[] #[.pointer (some ⟨b, 0, none⟩)]) (.clo f c)
  | nil : V w N (.slice none 0 0) (.sl [])
  | emp (a : Addr) (cap : Nat) : V w N (.slice (some a) 0 cap) (.sl [])
  | sl (b off cap sz : Nat) (es : List (List CV)) (c : Nat → Nat → Value) (hb : b < w.heap.size) (hN : ¬ N b) (hz : ∀ e ∈ es, e.length = sz) (hc : es.length ≤ cap)
      (h1 : ∀ e ∈ es, ∀ c ∈ e, c.one = true)
      (hr : ∀ (i j : Nat) (hi : i < es.length) (_ : j < es[i].length), w.cell? ⟨b, off + (i * sz + j), none⟩ = some (c i j))
      (h : ∀ (i j : Nat) (hi : i < es.length) (hj : j < es[i].length), V w N (c i j) es[i][j]) : V w N (.slice (some ⟨b, off, none⟩) es.length cap) (.sl es)
theorem V.oneCell {w : World} {N : Nat → Prop} {v : Value} {c : CV} (h : V w N v c) (h1 : c.one = true) : v.oneCell' = true := by
  cases h <;> first | rfl | (simp [CV.one] at h1)
structure Ext (w : World) (N : Nat → Prop) (w' : World) (N' : Nat → Prop) : Prop where
  size : w.heap.size ≤ w'.heap.size
  keep : ∀ b, b < w.heap.size → ¬ N b → w'.heap[b]? = w.heap[b]?
  less : ∀ b, b < w.heap.size → N' b → N b
theorem Ext.refl (w : World) (N : Nat → Prop) : Ext w N w N := ⟨Nat.le_refl _, fun _ _ _ => rfl, fun _ _ h => h⟩
theorem Ext.of_less {w : World} {N N' : Nat → Prop} (h : ∀ b, N' b → N b) : Ext w N w N' := ⟨Nat.le_refl _, fun _ _ _ => rfl, fun b _ => h b⟩
theorem Ext.cell {w w' : World} {N N' : Nat → Prop} (e : Ext w N w' N') {b o : Nat} (hb : b < w.heap.size) (hN : ¬ N b) : w'.cell? ⟨b, o, none⟩ = w.cell? ⟨b, o, none⟩ := by
  simp only [World.cell?, e.keep b hb hN]
theorem V.ext {w w' : World} {N N' : Nat → Prop} (e : Ext w N w' N') {v : Value} {c : CV} (h : V w N v c) : V w' N' v c := by
  induction h with
  | int k n => exact .int k n
  | bool b => exact .bool b
  | str s => exact .str s
  | nilp => exact .nilp
  | nili => exact .nili
  | nilf => exact .nilf
  | iface t v c _ ih => exact .iface t v c ih
  | agg vs cs hl h1 _ ih => exact .agg vs cs hl h1 ih
  | tup vs cs hl _ ih => exact .tup vs cs hl ih
  | fn f vs cs hl _ ih => exact .fn f vs cs hl ih
  | clo f b v c hb hN hr _ ih => exact .clo f b v c (Nat.lt_of_lt_of_le hb e.size) (fun h => hN (e.less b hb h)) (by rw [e.cell hb hN]; exact hr) ih
  | nil => exact .nil
  | emp a cap => exact .emp a cap
  | sl b off cap sz es c hb hN hz hc h1 hr _ ih =>
    exact .sl b off cap sz es c (Nat.lt_of_lt_of_le hb e.size) (fun h => hN (e.less b hb h)) hz hc h1 (fun i j hi hj => by rw [e.cell hb hN]; exact hr i j hi hj) ih
def BSt.owned : BSt → Bool
  | .var _ | .vp _ | .sl _ _ => true
  | _ => false
abbrev Bt := Nat → Option (Nat × Nat)
def Nn (O : Nat → Prop) (β : Bt) (bx : Nat → Box) (b : Nat) : Prop := O b ∨ ∃ d base, (bx d).st.owned = true ∧ β d = some (b, base)
def CellsAt (w : World) (N : Nat → Prop) (b off : Nat) (cs : List CV) : Prop :=
  (∀ c ∈ cs, c.one = true) ∧ ∀ (j : Nat) (hj : j < cs.length), ∃ v, w.cell? ⟨b, off + j, none⟩ = some v ∧ V w N v cs[j]
theorem CellsAt.ext {w w' : World} {N N' : Nat → Prop} {b off : Nat} {cs : List CV} (e : Ext w N w' N') (hc : w'.heap[b]? = w.heap[b]?) (h : CellsAt w N b off cs) : CellsAt w' N' b off cs :=
  ⟨h.1, fun j hj => by
    obtain ⟨v, hv, hV⟩ := h.2 j hj
    exact ⟨v, by simp only [World.cell?, hc] at hv ⊢; exact hv, hV.ext e⟩⟩
def OwnB (w : World) (b n : Nat) : Prop := ∃ arr el, w.heap[b]? = some (.cells arr el (0, 0)) ∧ n ≤ arr.size
def BR (w : World) (N : Nat → Prop) (p : Option (Nat × Nat)) : BSt → Prop
  | .var cs => ∃ b base, p = some (b, base) ∧ OwnB w b (base + cs.length) ∧ CellsAt w N b base cs
  | .vp _ => True
  | .sl sz es => (∀ e ∈ es, e.length = sz) ∧ ((p = none ∧ es = []) ∨ ∃ b, p = some (b, 0) ∧ OwnB w b (es.length * sz) ∧ ∀ (i : Nat) (hi : i < es.length), CellsAt w N b (i * sz) es[i])
  | .dead => True
def R (w : World) (N : Nat → Prop) (β : Bt) (bx : Nat → Box) (v : Value) : PV → Prop
  | .c c => V w N v c
  | .ptr d ver off => (ver ≤ (bx d).ver ∧ v.oneCell' = true) ∧ (ver = (bx d).ver → (bx d).st.isv = true → ∃ b base, β d = some (b, base) ∧ v = .pointer (some ⟨b, base + off, none⟩))
  | .rp cs => ∃ b off, v = .pointer (some ⟨b, off, none⟩) ∧ b < w.heap.size ∧ ¬ N b ∧ CellsAt w N b off cs
  | .osl d ver off len => (ver ≤ (bx d).ver ∧ v.oneCell' = true) ∧ (ver = (bx d).ver → ∀ sz es, (bx d).st = .sl sz es → off = 0 ∧
      ((β d = none ∧ v = .slice none 0 0 ∧ len = 0) ∨ ∃ b cap, β d = some (b, 0) ∧ v = .slice (some ⟨b, 0, none⟩) len cap ∧ len ≤ cap ∧ OwnB w b (cap * sz)))
  | .sp d ver i off => ver ≤ (bx d).ver ∧ (ver = (bx d).ver → ∀ sz es, (bx d).st = .sl sz es → ∃ b, β d = some (b, 0) ∧ v = .pointer (some ⟨b, i * sz + off, none⟩))
  | .undef => v = Go.undef
  | .junk => True
def CellsP (w : World) (N : Nat → Prop) (β : Bt) (bx : Nat → Box) (b off : Nat) (ps : List PV) : Prop :=
  (∀ p ∈ ps, p.one = true) ∧ ∀ (j : Nat) (hj : j < ps.length), ∃ v, w.cell? ⟨b, off + j, none⟩ = some v ∧ R w N β bx v ps[j]
structure Lent where
  may : Nat → Prop
  pl : Bt
instance : CoeFun Lent fun _ => Nat → Prop := ⟨Lent.may⟩
structure Sim (O : Nat → Prop) (w0 : World) (A0 : Lent) (β : Bt) (s : PS) (tm : Nat → Value) (w : World) : Prop where
  os : w.os = w0.os
  tape : w.tape = w0.tape
  output : w.output = w0.output
  size : w0.heap.size ≤ w.heap.size
  keep : ∀ b, b < w0.heap.size → ¬ A0 b → w.heap[b]? = w0.heap[b]?
  temps : ∀ i, R w (Nn O β s.bx) β s.bx (tm i) (s.t i)
  boxes : ∀ d, BR w (Nn O β s.bx) (β d) (s.bx d).st
  inj : ∀ d d' p p', d ≠ d' → (s.bx d).st.owned = true → (s.bx d').st.owned = true → β d = some p → β d' = some p' → p.1 ≠ p'.1
  out : ∀ d p, (s.bx d).st.owned = true → β d = some p → ¬ O p.1 ∧ p.1 < w.heap.size ∧ (p.1 < w0.heap.size → A0 p.1)
  outer : ∀ b, O b → b < w0.heap.size ∧ ¬ A0 b
  vps : ∀ d ps, (s.bx d).st = .vp ps → ∃ b base, β d = some (b, base) ∧ OwnB w b (base + ps.length) ∧ CellsP w (Nn O β s.bx) β s.bx b base ps
  still : ∀ d, (s.bx d).ver = 0 → (s.bx d).st.owned = true → β d = A0.pl d
theorem OwnB.lt {w : World} {b n : Nat} (h : OwnB w b n) : b < w.heap.size := by
  obtain ⟨arr, el, h, _⟩ := h
  exact (Array.getElem?_eq_some_iff.1 h).1
theorem OwnB.of_eq {w w' : World} {b n : Nat} (h : OwnB w b n) (e : w'.heap[b]? = w.heap[b]?) : OwnB w' b n := by
  obtain ⟨arr, el, h, hn⟩ := h
  exact ⟨arr, el, by rw [e]; exact h, hn⟩
theorem Sim.put {O : Nat → Prop} {A0 : Lent} {w0 w : World} {β : Bt} {s : PS} {tm : Nat → Value} (h : Sim O w0 A0 β s tm w) (d : Nat) (pv : PV) (v : Value)
    (hv : R w (Nn O β s.bx) β s.bx v pv) : Sim O w0 A0 β (s.put d pv) (fun i => if i = d then v else tm i) w where
  os := h.os
  tape := h.tape
  output := h.output
  size := h.size
  keep := h.keep
  temps := fun i => by
    by_cases e : i = d
    · simp only [PS.put, if_pos e]; exact hv
    · simp only [PS.put, if_neg e]; exact h.temps i
  boxes := h.boxes
  inj := h.inj
  out := h.out
  outer := h.outer
  vps := h.vps
  still := h.still
def Compat (w w' : World) (p p' : Option (Nat × Nat)) (b b' : Box) : Prop :=
  b.ver < b'.ver ∨ (b.ver = b'.ver ∧ (b'.st = .dead ∨ (p' = p ∧
    (b'.st.isv = true → b.st.isv = true) ∧
    (∀ sz es, b'.st = .sl sz es → (∃ es', b.st = .sl sz es') ∧ ∀ q n, p = some q → OwnB w q.1 n → OwnB w' q.1 n))))
theorem Compat.ver {w w' : World} {p p' : Option (Nat × Nat)} {b b' : Box} (h : Compat w w' p p' b b') : b.ver ≤ b'.ver := by
  rcases h with h | h
  · omega
  · omega
theorem R.change {w w' : World} {N N' : Nat → Prop} {β β' : Bt} {bx bx' : Nat → Box} {v : Value} {pv : PV} (e : Ext w N w' N') (hc : ∀ d, Compat w w' (β d) (β' d) (bx d) (bx' d))
    (h : R w N β bx v pv) : R w' N' β' bx' v pv := by
  cases pv with
  | c c => exact V.ext e h
  | ptr d ver off =>
    obtain ⟨⟨h1, h0⟩, h2⟩ := h
    refine ⟨⟨Nat.le_trans h1 (hc d).ver, h0⟩, fun hv hs => ?_⟩
    rcases hc d with hlt | ⟨heq, hd | ⟨hp, hk, _⟩⟩
    · omega
    · rw [hd] at hs; cases hs
    · obtain ⟨b, base, hb, he⟩ := h2 (by omega) (hk hs)
      exact ⟨b, base, by rw [hp]; exact hb, he⟩
  | rp cs =>
    obtain ⟨b, off, hv, hb, hN, hcs⟩ := h
    exact ⟨b, off, hv, Nat.lt_of_lt_of_le hb e.size, fun hn => hN (e.less b hb hn), hcs.ext e (e.keep b hb hN)⟩
  | osl d ver off len =>
    obtain ⟨⟨h1, h0⟩, h2⟩ := h
    refine ⟨⟨Nat.le_trans h1 (hc d).ver, h0⟩, fun hv sz es hs => ?_⟩
    rcases hc d with hlt | ⟨heq, hd | ⟨hp, hk, hk2⟩⟩
    · omega
    · rw [hd] at hs; cases hs
    · obtain ⟨⟨es', hs'⟩, hown⟩ := hk2 sz es hs
      obtain ⟨ho, hor⟩ := h2 (by omega) sz es' hs'
      refine ⟨ho, ?_⟩
      rcases hor with ⟨a, b, c⟩ | ⟨b, cap, hb, hv, hl, ho⟩
      · exact .inl ⟨by rw [hp]; exact a, b, c⟩
      · exact .inr ⟨b, cap, by rw [hp]; exact hb, hv, hl, hown _ _ hb ho⟩
  | sp d ver i off =>
    obtain ⟨h1, h2⟩ := h
    refine ⟨Nat.le_trans h1 (hc d).ver, fun hv sz es hs => ?_⟩
    rcases hc d with hlt | ⟨heq, hd | ⟨hp, hk, hk2⟩⟩
    · omega
    · rw [hd] at hs; cases hs
    · obtain ⟨⟨es', hs'⟩, _⟩ := hk2 sz es hs
      obtain ⟨b, hb, hv⟩ := h2 (by omega) sz es' hs'
      exact ⟨b, by rw [hp]; exact hb, hv⟩
  | undef => exact h
  | junk => trivial
theorem Compat.same {w w' : World} {p : Option (Nat × Nat)} {b : Box} (h : ∀ q n, b.st.owned = true → p = some q → OwnB w q.1 n → OwnB w' q.1 n) : Compat w w' p p b b :=
  .inr ⟨rfl, .inr ⟨rfl, fun h => h, fun sz es hs => ⟨⟨es, hs⟩, fun q n hq => h q n (by rw [hs]; rfl) hq⟩⟩⟩
theorem CellsP.change {w w' : World} {N N' : Nat → Prop} {β β' : Bt} {bx bx' : Nat → Box} {b off : Nat} {ps : List PV} (e : Ext w N w' N') (hc : ∀ d, Compat w w' (β d) (β' d) (bx d) (bx' d)) (hb : w'.heap[b]? = w.heap[b]?)
    (h : CellsP w N β bx b off ps) : CellsP w' N' β' bx' b off ps :=
  ⟨h.1, fun j hj => by
    obtain ⟨v, hv, hR⟩ := h.2 j hj
    exact ⟨v, by simp only [World.cell?, hb] at hv ⊢; exact hv, hR.change e hc⟩⟩
def VP (w : World) (N : Nat → Prop) (β : Bt) (bx : Nat → Box) (p : Option (Nat × Nat)) (st : BSt) : Prop :=
  ∀ ps, st = .vp ps → ∃ b base, p = some (b, base) ∧ OwnB w b (base + ps.length) ∧ CellsP w N β bx b base ps
theorem Sim.change {O : Nat → Prop} {A0 : Lent} {w0 w w' : World} {β : Bt} {s : PS} {tm : Nat → Value} (h : Sim O w0 A0 β s tm w) (d : Nat) (p' : Option (Nat × Nat)) (b' : Box)
    (hos : w'.os = w.os) (htape : w'.tape = w.tape) (hout : w'.output = w.output) (hsize : w.heap.size ≤ w'.heap.size)
    -- blocks that stood are as they were, but that of 'd'
    (hkeep : ∀ b, b < w.heap.size → (∀ p, (s.bx d).st.owned = true → β d = some p → b ≠ p.1) → w'.heap[b]? = w.heap[b]?)
    (hcompat : Compat w w' (β d) p' (s.bx d) b')
    -- the new block: it was 'd's own, or it is new
    (hnew : ∀ p, b'.st.owned = true → p' = some p → ((s.bx d).st.owned = true ∧ ∃ q, β d = some q ∧ q.1 = p.1) ∨ (w.heap.size ≤ p.1 ∧ p.1 < w'.heap.size))
    (hbr : BR w' (Nn O (fun i => if i = d then p' else β i) (fun i => if i = d then b' else s.bx i)) p' b'.st)
    (hvp : Ext w (Nn O β s.bx) w' (Nn O (fun i => if i = d then p' else β i) (fun i => if i = d then b' else s.bx i)) → (∀ i, Compat w w' (β i) ((fun i => if i = d then p' else β i) i) (s.bx i) ((fun i => if i = d then b' else s.bx i) i)) →
      VP w' (Nn O (fun i => if i = d then p' else β i) (fun i => if i = d then b' else s.bx i)) (fun i => if i = d then p' else β i) (fun i => if i = d then b' else s.bx i) p' b'.st := by intro _ _ ps h; cases h) :
    Sim O w0 A0 (fun i => if i = d then p' else β i) (s.box d b') tm w' := by
  have hless : ∀ b, b < w.heap.size → Nn O (fun i => if i = d then p' else β i) (fun i => if i = d then b' else s.bx i) b → Nn O β s.bx b := by
    intro b hb hn
    rcases hn with hn | ⟨i, base, ho, hi⟩
    · exact .inl hn
    · by_cases e : i = d
      · subst e
        simp only [if_true] at ho hi
        rcases hnew _ ho hi with ⟨ho', q, hq, he⟩ | ⟨h1, _⟩
        · exact .inr ⟨i, q.2, ho', by obtain ⟨q1, q2⟩ := q; simp at he; rw [hq, he]⟩
        · simp at h1; omega
      · simp only [if_neg e] at ho hi
        exact .inr ⟨i, base, ho, hi⟩
  have e : Ext w (Nn O β s.bx) w' (Nn O (fun i => if i = d then p' else β i) (fun i => if i = d then b' else s.bx i)) := by
    refine ⟨hsize, fun b hb hn => hkeep b hb fun p ho hp he => hn (.inr ⟨d, p.2, ho, by rw [hp, he]⟩), hless⟩
  have hblk : ∀ i p, i ≠ d → (s.bx i).st.owned = true → β i = some p → w'.heap[p.1]? = w.heap[p.1]? := by
    intro i p hi ho hp
    refine hkeep _ (h.out i p ho hp).2.1 fun q ho' hq => ?_
    exact h.inj i d p q hi ho ho' hp hq
  have hcomp : ∀ i, Compat w w' (β i) ((fun i => if i = d then p' else β i) i) (s.bx i) ((fun i => if i = d then b' else s.bx i) i) := by
    intro i
    by_cases hi : i = d
    · subst hi; simp only [if_true]; exact hcompat
    · simp only [if_neg hi]
      exact Compat.same fun q n ho hq hw => hw.of_eq (hblk i q hi ho hq)
  refine ⟨hos.trans h.os, htape.trans h.tape, hout.trans h.output, Nat.le_trans h.size hsize, ?_, fun i => (h.temps i).change e hcomp, ?_, ?_, ?_, h.outer, ?_, ?_⟩
  · intro b hb hn
    rw [hkeep b (Nat.lt_of_lt_of_le hb h.size) fun p ho hp he => hn (he ▸ (h.out d p ho hp).2.2 (he ▸ hb))]
    exact h.keep b hb hn
  · intro i
    by_cases hi : i = d
    · subst hi; simp only [PS.box, if_true]; exact hbr
    · have hb := h.boxes i
      simp only [PS.box, if_neg hi]
      cases hst : (s.bx i).st with
      | var cs =>
        rw [hst] at hb
        obtain ⟨b, base, hp, ho, hc⟩ := hb
        have hq := hblk i _ hi (by rw [hst]; rfl) hp
        exact ⟨b, base, hp, ho.of_eq hq, hc.ext e hq⟩
      | vp cs => trivial
      | sl sz es =>
        rw [hst] at hb
        refine ⟨hb.1, ?_⟩
        rcases hb.2 with hb | ⟨b, hp, ho, hc⟩
        · exact .inl hb
        · have hq := hblk i _ hi (by rw [hst]; rfl) hp
          exact .inr ⟨b, hp, ho.of_eq hq, fun i hi => (hc i hi).ext e hq⟩
      | dead => trivial
  · intro i j p q hij hi hj hp hq
    simp only [PS.box] at hi hj
    by_cases ei : i = d
    · subst ei
      have ej : j ≠ i := fun e => hij e.symm
      simp only [if_true, if_neg ej] at hi hj hp hq
      rcases hnew _ hi hp with ⟨ho', r, hr, he⟩ | ⟨h1, _⟩
      · rw [← he]; exact h.inj i j r q hij ho' hj hr hq
      · have := (h.out j q hj hq).2.1; omega
    · by_cases ej : j = d
      · subst ej
        simp only [if_true, if_neg ei] at hi hj hp hq
        rcases hnew _ hj hq with ⟨ho', r, hr, he⟩ | ⟨h1, _⟩
        · rw [← he]; exact h.inj i j p r hij hi ho' hp hr
        · have := (h.out i p hi hp).2.1; omega
      · simp only [if_neg ei, if_neg ej] at hi hj hp hq
        exact h.inj i j p q hij hi hj hp hq
  · intro i p hi hp
    simp only [PS.box] at hi
    by_cases ei : i = d
    · subst ei
      simp only [if_true] at hi hp
      rcases hnew _ hi hp with ⟨ho', r, hr, he⟩ | ⟨h1, h2⟩
      · have := h.out i r ho' hr; rw [he] at this; exact ⟨this.1, Nat.lt_of_lt_of_le this.2.1 hsize, this.2.2⟩
      · exact ⟨fun ho => by have := (h.outer _ ho).1; have := h.size; omega, h2, fun hlt => by have := h.size; omega⟩
    · simp only [if_neg ei] at hi hp
      have := h.out i p hi hp
      exact ⟨this.1, Nat.lt_of_lt_of_le this.2.1 hsize, this.2.2⟩
  · intro i ps hi
    by_cases ei : i = d
    · subst ei
      simp only [PS.box, if_true] at hi ⊢
      exact hvp e hcomp ps hi
    · simp only [PS.box, if_neg ei] at hi ⊢
      obtain ⟨b, base, hp, ho, hc⟩ := h.vps i ps hi
      have hq := hblk i _ ei (by rw [hi]; rfl) hp
      exact ⟨b, base, hp, ho.of_eq hq, hc.change e hcomp hq⟩
  · intro i hi ho
    by_cases ei : i = d
    · subst ei
      simp only [PS.box, if_true] at hi ho ⊢
      rcases hcompat with hlt | ⟨heq, hd | ⟨hp, hk, hk2⟩⟩
      · omega
      · rw [hd] at ho; cases ho
      · rw [hp]
        refine h.still i (by omega) ?_
        cases hst : b'.st with
        | var cs => rw [hst] at hk; have := hk rfl; revert this; cases (s.bx i).st <;> simp [BSt.isv, BSt.owned]
        | vp cs => rw [hst] at hk; have := hk rfl; revert this; cases (s.bx i).st <;> simp [BSt.isv, BSt.owned]
        | sl sz es => obtain ⟨⟨es', he⟩, _⟩ := hk2 sz es hst; rw [he]; rfl
        | dead => rw [hst] at ho; cases ho
    · simp only [PS.box, if_neg ei] at hi ho ⊢
      exact h.still i hi ho
end Go.Pl
/-
  EACH OPERATION OF THE MODEL DOES TO A FRAME AND A WORLD WHAT THE PLAIN STEP DOES TO THE STATE THAT IS SAID OF THEM. My own work.
-/
namespace Go.Pl
open Go
set_option linter.unusedVariables false
def tmf (a : Act) : Nat → Value := fun i => a.tmps.getD i undef
theorem tmf_put {a : Act} {d : Nat} (v : Value) (h : d < a.tmps.size) : tmf (a.put (some d) v) = fun i => if i = d then v else tmf a i := by
  funext i
  simp only [tmf, Act.put, Array.getD_eq_getD_getElem?, Array.getElem?_setIfInBounds]
  by_cases e : i = d
  · subst e; simp [h]
  · have : ¬ d = i := fun h => e h.symm
    simp [e, this]
def dstOk (o : Option Nat) (n : Nat) : Prop := ∀ d, o = some d → d < n
theorem Sim.putO {O : Nat → Prop} {A0 : Lent} {w0 w : World} {β : Bt} {s : PS} {a : Act} (h : Sim O w0 A0 β s (tmf a) w) (o : Option Nat) (ho : dstOk o a.tmps.size) (pv : PV) (v : Value)
    (hv : R w (Nn O β s.bx) β s.bx v pv) : Sim O w0 A0 β (s.putO o pv) (tmf (a.put o v)) w := by
  cases o with
  | none => exact h
  | some d => rw [tmf_put v (ho d rfl)]; exact h.put d pv v hv
/-! ### Constants and operands -/
def chk1 : Value → CV → Bool
  | .int k n, .int k' m => decide (k = k' ∧ n = m)
  | .bool a, .bool b => a == b
  | .string a, .str b => decide (a = b)
  | .pointer none, .nilp => true
  | .nilIface, .nili => true
  | .nilFunc, .nilf => true
  | .slice none 0 0, .sl [] => true
  | _, _ => false
def chkL : List Value → List CV → Bool
  | [], [] => true
  | v :: l, c :: m => chk1 v c && chkL l m
  | _, _ => false
def chkV : Value → CV → Bool
  | .agg vs, .agg cs => chkL vs.toList cs
  | v, c => chk1 v c
theorem chk1_V {v : Value} {c : CV} (h : chk1 v c = true) (w : World) (N : Nat → Prop) : V w N v c ∧ c.one = true := by
  unfold chk1 at h
  split at h
  · obtain ⟨rfl, rfl⟩ := of_decide_eq_true h; exact ⟨.int _ _, rfl⟩
  · obtain rfl := eq_of_beq h; exact ⟨.bool _, rfl⟩
  · obtain rfl := of_decide_eq_true h; exact ⟨.str _, rfl⟩
  · exact ⟨.nilp, rfl⟩
  · exact ⟨.nili, rfl⟩
  · exact ⟨.nilf, rfl⟩
  · exact ⟨.nil, rfl⟩
  · cases h
theorem chkL_V {w : World} {N : Nat → Prop} : ∀ {vs : List Value} {cs : List CV}, chkL vs cs = true →
    vs.length = cs.length ∧ (∀ c ∈ cs, c.one = true) ∧ ∀ (i : Nat) (h1 : i < vs.length) (h2 : i < cs.length), V w N vs[i] cs[i]
  | [], [], _ => ⟨rfl, by simp, fun i h => by simp at h⟩
  | v :: l, c :: m, h => by
    simp only [chkL, Bool.and_eq_true] at h
    obtain ⟨hl, h1, hv⟩ := chkL_V (w := w) (N := N) h.2
    have h0 := chk1_V h.1 w N
    refine ⟨by simp [hl], ?_, ?_⟩
    · intro x hx
      rcases List.mem_cons.1 hx with rfl | hx
      · exact h0.2
      · exact h1 x hx
    · intro i hi hj
      cases i with
      | zero => exact h0.1
      | succ i => exact hv i (by simpa using hi) (by simpa using hj)
theorem chkV_V {v : Value} {c : CV} (h : chkV v c = true) (w : World) (N : Nat → Prop) : V w N v c := by
  unfold chkV at h
  split at h
  · rename_i vs cs
    obtain ⟨hl, h1, hv⟩ := chkL_V (w := w) (N := N) h
    exact .agg vs cs (by simpa using hl) h1 (fun i hi hj => by have := hv i (by simpa using hi) hj; simpa using this)
  · exact (chk1_V h w N).1
def chkPO : Operand → PO → Bool
  | .tmp i, .t j => decide (i = j)
  | .const v, .k c => chkV v c
  | .func f, .k (.fn (.func g) []) => decide (f = g)
  | _, _ => false
section
variable {O : Nat → Prop} {A0 : Lent} {w0 w : World} {β : Bt} {s : PS} {a : Act} {P : Program}
theorem ev_R (h : Sim O w0 A0 β s (tmf a) w) {x : Operand} {y : PO} (hc : chkPO x y = true) : R w (Nn O β s.bx) β s.bx (a.eval x) (s.ev y) := by
  unfold chkPO at hc
  split at hc
  · obtain rfl := of_decide_eq_true hc; exact h.temps _
  · exact chkV_V hc _ _
  · obtain rfl := of_decide_eq_true hc
    exact V.fn _ #[] [] rfl (fun i hi => by simp at hi)
  · cases hc
theorem evc_V (h : Sim O w0 A0 β s (tmf a) w) {x : Operand} {y : PO} {c : CV} (hc : chkPO x y = true) (he : s.evc y = some c) : V w (Nn O β s.bx) (a.eval x) c := by
  have := ev_R h hc
  unfold PS.evc at he
  split at he
  · rename_i v hv; rw [hv] at this; obtain rfl := Option.some.inj he; exact this
  · cases he
theorem V.int_inv {N : Nat → Prop} {v : Value} {k : IntKind} {n : Int} (h : V w N v (.int k n)) : v = .int k n := by cases h; rfl
theorem V.bool_inv {N : Nat → Prop} {v : Value} {b : Bool} (h : V w N v (.bool b)) : v = .bool b := by cases h; rfl
theorem V.str_inv {N : Nat → Prop} {v : Value} {b : ByteArray} (h : V w N v (.str b)) : v = .string b := by cases h; rfl
theorem V.cells {N : Nat → Prop} {v : Value} {c : CV} (h : V w N v c) (hn : 0 < c.cells.length) :
    v.cells.size = c.cells.length ∧ (∀ x ∈ c.cells, x.one = true) ∧ ∀ (j : Nat) (h1 : j < v.cells.size) (h2 : j < c.cells.length), V w N v.cells[j] c.cells[j] := by
  have one : ∀ {v : Value} {c : CV}, V w N v c → v.cells = #[v] → c.cells = [c] → c.one = true →
      v.cells.size = c.cells.length ∧ (∀ x ∈ c.cells, x.one = true) ∧ ∀ (j : Nat) (h1 : j < v.cells.size) (h2 : j < c.cells.length), V w N v.cells[j] c.cells[j] := by
    intro v c h hv hc h1
    simp only [hv, hc]
    refine ⟨rfl, by simpa using h1, fun j hj hj' => ?_⟩
    have : j = 0 := by simp at hj; omega
    subst this
    exact h
  cases h with
  | agg vs cs hl h1 h => exact ⟨hl, h1, h⟩
  | tup vs cs hl h => simp [CV.cells] at hn
  | int k n => exact one (.int k n) rfl rfl rfl
  | bool b => exact one (.bool b) rfl rfl rfl
  | str s => exact one (.str s) rfl rfl rfl
  | nilp => exact one .nilp rfl rfl rfl
  | nili => exact one .nili rfl rfl rfl
  | nilf => exact one .nilf rfl rfl rfl
  | iface t v c h => exact one (.iface t v c h) rfl rfl rfl
  | fn f vs cs hl h => exact one (.fn f vs cs hl h) rfl rfl rfl
  | clo f b v c hb hN hr h => exact one (.clo f b v c hb hN hr h) rfl rfl rfl
  | nil => exact one .nil rfl rfl rfl
  | emp b cap => exact one (.emp b cap) rfl rfl rfl
  | sl b off cap sz es c hb hN hz hc h1 hr h => exact one (.sl b off cap sz es c hb hN hz hc h1 hr h) rfl rfl rfl
/-! ### What a step owes -/
def Does (P : Program) (o : Oper) (O : Nat → Prop) (A0 : Lent) (w0 : World) (a : Act) (w : World) (s' : PS) : Prop :=
  ∃ nx v w' β', (execOp a.eval o).run P w = .ok nx w' ∧ (nx = .value v ∨ (nx = .skip ∧ v = undef)) ∧ Sim O w0 A0 β' s' (tmf (a.put o.dst v)) w'
theorem Does.val {o : Oper} (h : Sim O w0 A0 β s (tmf a) w) (ho : dstOk o.dst a.tmps.size) {v : Value} {pv : PV} (hr : (execOp a.eval o).run P w = .ok (.value v) w)
    (hv : R w (Nn O β s.bx) β s.bx v pv) : Does P o O A0 w0 a w (s.putO o.dst pv) :=
  ⟨_, v, w, β, hr, .inl rfl, h.putO _ ho pv v hv⟩
theorem sim_new (h : Sim O w0 A0 β s (tmf a) w) {d : Nat} (hd : d < a.tmps.size) (cells : Array Value) (el : TypeId) (b' : Box) (pv : PV) (v : Value)
    (hver : (s.bx d).ver < b'.ver)
    (hbr : ∀ N : Nat → Prop, Ext w (Nn O β s.bx) (w.alloc (.cells cells el)) N → BR (w.alloc (.cells cells el)) N (some (w.heap.size, 0)) b'.st)
    (hR : ∀ N β' bx', β' d = some (w.heap.size, 0) → bx' d = b' → R (w.alloc (.cells cells el)) N β' bx' v pv) (hnp : ∀ ps, b'.st ≠ .vp ps := by intro ps h; cases h) :
    Sim O w0 A0 (fun i => if i = d then some (w.heap.size, 0) else β i) ((s.box d b').put d pv) (tmf (a.put (some d) v)) (w.alloc (.cells cells el)) := by
  have hsize : (w.alloc (.cells cells el)).heap.size = w.heap.size + 1 := Array.size_push _
  have hk : ∀ b, b < w.heap.size → (w.alloc (.cells cells el)).heap[b]? = w.heap[b]? := fun b hb => by
    show (w.heap.push _)[b]? = _; rw [Array.getElem?_push, if_neg (by omega)]
  have hext : Ext w (Nn O β s.bx) (w.alloc (.cells cells el)) (Nn O (fun i => if i = d then some (w.heap.size, 0) else β i) (fun i => if i = d then b' else s.bx i)) := by
    refine ⟨by omega, fun b hb _ => hk b hb, fun b hb hn => ?_⟩
    rcases hn with hn | ⟨i, base, ho, hi⟩
    · exact .inl hn
    · by_cases e : i = d
      · simp only [if_pos e, Option.some.injEq, Prod.mk.injEq] at hi; omega
      · simp only [if_neg e] at ho hi; exact .inr ⟨i, base, ho, hi⟩
  have := h.change (w' := w.alloc (.cells cells el)) d (some (w.heap.size, 0)) b' rfl rfl rfl (by omega) (fun b hb _ => hk b hb) (.inl hver)
    (fun p _ hp => by simp only [Option.some.injEq] at hp; subst hp; exact .inr ⟨Nat.le_refl _, by show w.heap.size < _; omega⟩) (hbr _ hext) (fun _ _ ps hps => absurd hps (hnp ps))
  rw [tmf_put v hd]
  exact this.put d pv v (hR _ _ _ (by simp) (by simp [PS.box]))
theorem run_load_cells {N : Nat → Prop} {b off n : Nat} {cs : List CV} (t : TypeId) (d : TypeDesc) (i : TypeInfo) (hu : P.underlying t = some d) (hi : P.info? t = some i) (hn : i.size = n) (f : Bool) (hf : d.isRow = f)
    (h1 : f = false → n = 1) (hc : CellsAt w N b off cs) (hl : n ≤ cs.length) :
    ∃ v, (Instr.loadAt t (.pointer (some ⟨b, off, none⟩))).run P w = .ok v w ∧ V w N v (rdc f n cs) := by
  obtain ⟨ho, hc⟩ := hc
  cases f with
  | true =>
    have hex : ∀ j : Fin n, ∃ v, w.cell? ⟨b, off + j.1, none⟩ = some v ∧ V w N v (cs[j.1]'(by omega)) := fun j => hc j.1 (by omega)
    have hch := fun j => Classical.choose_spec (hex j)
    refine ⟨_, run_loadAt_mid w b off t (List.ofFn fun j => Classical.choose (hex j)) d ?_ hu hf (by simp [hi, hn]), ?_⟩
    · intro j v hv
      simp only [List.getElem?_ofFn] at hv
      split at hv
      · rename_i hj; obtain rfl := Option.some.inj hv; exact (hch ⟨j, hj⟩).1
      · cases hv
    · simp only [rdc, if_true]
      refine .agg _ _ (by simp; omega) (fun c hc' => ho c (List.mem_of_mem_take hc')) fun j h1 h2 => ?_
      have hj : j < n := by simpa using h1
      have := (hch ⟨j, hj⟩).2
      simpa using this
  | false =>
    have hn1 := h1 rfl
    obtain ⟨v, hv, hV⟩ := hc 0 (by omega)
    refine ⟨v, ?_, ?_⟩
    · have hagg : (isAgg t).run P w = .ok false w := by
        unfold isAgg
        rw [Sem.run_bind, run_underlying hu w]
        cases d <;> simp_all [TypeDesc.isRow]
      simp only [Nat.add_zero] at hv
      simp only [Instr.loadAt, Instr.sureAddr, Sem.run_bind, Sem.run_pure, Result.andThen_ok, loadVar, hagg, Bool.false_eq_true, if_false, run_load, hv]
    · cases cs with
      | nil => simp at hl; omega
      | cons c l => simpa [rdc] using hV
theorem CellsAt.drop {N : Nat → Prop} {b off : Nat} {cs : List CV} (h : CellsAt w N b off cs) (k : Nat) : CellsAt w N b (off + k) (cs.drop k) :=
  ⟨fun c hc => h.1 c (List.mem_of_mem_drop hc), fun j hj => by
    have hj' : k + j < cs.length := by simp at hj; omega
    obtain ⟨v, hv, hV⟩ := h.2 (k + j) hj'
    exact ⟨v, by rw [Nat.add_assoc]; exact hv, by simpa using hV⟩⟩
theorem run_load_leaf {b off : Nat} {v : Value} (t : TypeId) (d : TypeDesc) (hu : P.underlying t = some d) (hf : d.isRow = false) (hv : w.cell? ⟨b, off, none⟩ = some v) : (Instr.loadAt t (.pointer (some ⟨b, off, none⟩))).run P w = .ok v w := by
  have hagg : (isAgg t).run P w = .ok false w := by
    unfold isAgg
    rw [Sem.run_bind, run_underlying hu w]
    cases d <;> simp_all [TypeDesc.isRow]
  simp only [Instr.loadAt, Instr.sureAddr, Sem.run_bind, Sem.run_pure, Result.andThen_ok, loadVar, hagg, Bool.false_eq_true, if_false, run_load, hv]
theorem closed_cells {N : Nat → Prop} {bx : Nat → Box} : ∀ {ps : List PV} {cs : List CV} {b off : Nat}, closed? ps = some cs → CellsP w N β bx b off ps → CellsAt w N b off cs ∧ cs.length = ps.length
  | [], cs, b, off, hc, h => by
    simp only [closed?, Option.some.injEq] at hc
    subst hc
    exact ⟨⟨fun c hc => by simp at hc, fun j hj => by simp at hj⟩, rfl⟩
  | p :: ps, cs, b, off, hc, h => by
    cases p with
    | c v =>
      simp only [closed?] at hc
      cases hl : closed? ps with
      | none => rw [hl] at hc; cases hc
      | some ds =>
        rw [hl] at hc
        simp only [Option.map_some, Option.some.injEq] at hc
        subst hc
        obtain ⟨h1, h2⟩ := h
        have ht : CellsP w N β bx b (off + 1) ps := ⟨fun p hp => h1 p (by simp [hp]), fun j hj => by
          obtain ⟨v, hv, hR⟩ := h2 (j + 1) (by simp; omega)
          exact ⟨v, by rw [show off + 1 + j = off + (j + 1) by omega]; exact hv, by simpa using hR⟩⟩
        obtain ⟨⟨k1, k2⟩, k3⟩ := closed_cells hl ht
        refine ⟨⟨fun c hc => ?_, fun j hj => ?_⟩, by simp [k3]⟩
        · rcases List.mem_cons.1 hc with rfl | hc
          · exact h1 (.c c) (by simp)
          · exact k1 c hc
        · cases j with
          | zero => obtain ⟨u, hu, hR⟩ := h2 0 (by simp); exact ⟨u, hu, hR⟩
          | succ j =>
            obtain ⟨u, hu, hV⟩ := k2 j (by simp at hj; omega)
            exact ⟨u, by rw [show off + (j + 1) = off + 1 + j by omega]; exact hu, by simpa using hV⟩
    | _ => cases hc
theorem CellsP.slice {N : Nat → Prop} {bx : Nat → Box} {ps : List PV} {b off : Nat} (h : CellsP w N β bx b off ps) (k n : Nat) : CellsP w N β bx b (off + k) ((ps.drop k).take n) :=
  ⟨fun p hp => h.1 p (List.mem_of_mem_drop (List.mem_of_mem_take hp)), fun j hj => by
    have hj' : k + j < ps.length := by simp at hj; omega
    obtain ⟨v, hv, hR⟩ := h.2 (k + j) hj'
    exact ⟨v, by rw [Nat.add_assoc]; exact hv, by simpa using hR⟩⟩
theorem load_cells (h : Sim O w0 A0 β s (tmf a) w) {x : Operand} {y : PO} (hc : chkPO x y = true) {dst : Option Nat} {f : Bool} {n : Nat} {av : List Nat} {s' : PS} (hs : pstep dst s (.load f n y av) = some s') :
    (∃ b off cs, a.eval x = .pointer (some ⟨b, off, none⟩) ∧ CellsAt w (Nn O β s.bx) b off cs ∧ n ≤ cs.length ∧ s' = s.putO dst (.c (rdc f n cs))) ∨
    (f = false ∧ (n = 1 → ∃ b off v pv, a.eval x = .pointer (some ⟨b, off, none⟩) ∧ w.cell? ⟨b, off, none⟩ = some v ∧ R w (Nn O β s.bx) β s.bx v pv ∧ s' = s.putO dst pv)) := by
  have hR := ev_R h hc
  simp only [pstep] at hs
  split at hs
  · rename_i cs hy
    rw [hy] at hR
    obtain ⟨b, off, hv, _, _, hcs⟩ := hR
    split at hs
    · exact .inl ⟨b, off, cs, hv, hcs, ‹_›, (Option.some.inj hs).symm⟩
    · cases hs
  · rename_i d ver off hy
    rw [hy] at hR
    split at hs
    · cases hs
    · split at hs
      · rename_i v cs hb
        split at hs
        · rename_i hv
          obtain ⟨rfl, hl⟩ := hv
          obtain ⟨b, base, hβ, he⟩ := hR.2 (by rw [hb]) (by rw [hb]; rfl)
          have hB := h.boxes d
          rw [hb] at hB
          obtain ⟨b', base', hp, _, hcs⟩ := hB
          rw [hβ] at hp
          obtain ⟨rfl, rfl⟩ := Prod.mk.inj (Option.some.inj hp)
          exact .inl ⟨b, base + off, cs.drop off, he, hcs.drop off, by simp; omega, (Option.some.inj hs).symm⟩
        · cases hs
      · rename_i v ps hb
        split at hs
        · rename_i hv
          obtain ⟨rfl, hl⟩ := hv
          obtain ⟨b, base, hβ, he⟩ := hR.2 (by rw [hb]) (by rw [hb]; rfl)
          obtain ⟨b', base', hp, _, hcs⟩ := h.vps d ps (by rw [hb])
          rw [hβ] at hp
          obtain ⟨rfl, rfl⟩ := Prod.mk.inj (Option.some.inj hp)
          split at hs
          · rename_i pv hpv
            unfold loadP at hpv
            split at hpv
            · rename_i hf
              split at hpv
              · rename_i cs hcl
                obtain ⟨hca, hlen⟩ := closed_cells hcl (hcs.slice off n)
                have hlen' : cs.length = n := by rw [hlen]; simp; omega
                refine .inl ⟨b, base + off, cs, he, hca, by omega, ?_⟩
                rw [← Option.some.inj hs, ← Option.some.inj hpv]
                simp only [rdc, hf, if_true]
                rw [List.take_of_length_le (by omega)]
              · cases hpv
            · rename_i hf
              refine .inr ⟨by simpa using hf, fun hn => ?_⟩
              subst hn
              obtain ⟨v, hv, hR⟩ := hcs.2 off (by omega)
              refine ⟨b, base + off, v, ps[off], he, hv, hR, ?_⟩
              rw [← Option.some.inj hs, ← Option.some.inj hpv, List.drop_eq_getElem_cons (by omega)]
              rfl
          · cases hs
        · cases hs
      · cases hs
  · rename_i d ver i off hy
    rw [hy] at hR
    split at hs
    · cases hs
    · split at hs
      · rename_i v sz es hb
        split at hs
        · rename_i e he
          split at hs
          · rename_i hv
            obtain ⟨rfl, hl⟩ := hv
            obtain ⟨b, hβ, hp⟩ := hR.2 (by rw [hb]) sz es (by rw [hb])
            have hB := h.boxes d
            rw [hb] at hB
            rcases hB.2 with ⟨hn, _⟩ | ⟨b', hp', _, hcs⟩
            · rw [hβ] at hn; cases hn
            · rw [hβ] at hp'
              obtain ⟨rfl, _⟩ := Prod.mk.inj (Option.some.inj hp')
              obtain ⟨hi, rfl⟩ := List.getElem?_eq_some_iff.1 he
              exact .inl ⟨b, i * sz + off, es[i].drop off, hp, (hcs i hi).drop off, by simp; omega, (Option.some.inj hs).symm⟩
          · cases hs
        · cases hs
      · cases hs
  · cases hs
/-! ### The operations -/
theorem ok_mv {o : Oper} {x : Operand} {y : PO} (ho : o.op = .move x ∨ o.op = .assign x) (h : Sim O w0 A0 β s (tmf a) w) (hd : dstOk o.dst a.tmps.size) (hc : chkPO x y = true) {s' : PS}
    (hs : pstep o.dst s (.mv y) = some s') : Does P o O A0 w0 a w s' := by
  obtain rfl := Option.some.inj hs
  refine Does.val h hd (v := a.eval x) ?_ (ev_R h hc)
  unfold execOp
  rcases ho with ho | ho <;> simp only [ho, Sem.run_pure]
theorem ok_pick {o : Oper} {c x y : Operand} {c' x' y' : PO} (ho : o.op = .pick c x y) (h : Sim O w0 A0 β s (tmf a) w) (hd : dstOk o.dst a.tmps.size) (hc : chkPO c c' = true) (hx : chkPO x x' = true) (hy : chkPO y y' = true) {s' : PS}
    (hs : pstep o.dst s (.pick c' x' y') = some s') : Does P o O A0 w0 a w s' := by
  simp only [pstep] at hs
  split at hs
  · rename_i t ht
    obtain rfl := Option.some.inj hs
    have hb := ev_R h hc
    rw [ht] at hb
    have hb := V.bool_inv hb
    refine Does.val h hd (v := if t = true then a.eval x else a.eval y) ?_ ?_
    · unfold execOp
      simp only [ho, hb, asBool, Sem.run_bind, Sem.run_pure, Result.andThen_ok]
    · cases t
      · exact ev_R h hy
      · exact ev_R h hx
  · cases hs
theorem ok_load {o : Oper} {t : TypeId} {x : Operand} {y : PO} {f : Bool} {n : Nat} {av : List Nat} (ho : o.op = .load t x) (h : Sim O w0 A0 β s (tmf a) w) (hd : dstOk o.dst a.tmps.size) (hc : chkPO x y = true)
    (d : TypeDesc) (i : TypeInfo) (hu : P.underlying t = some d) (hi : P.info? t = some i) (hn : i.size = n) (hf : d.isRow = f) (h1 : f = false → n = 1) {s' : PS}
    (hs : pstep o.dst s (.load f n y av) = some s') : Does P o O A0 w0 a w s' := by
  rcases load_cells h hc hs with ⟨b, off, cs, he, hcs, hl, rfl⟩ | ⟨rfl, hk⟩
  · obtain ⟨v, hr, hV⟩ := run_load_cells t d i hu hi hn f hf h1 hcs hl
    refine Does.val h hd (v := v) ?_ hV
    unfold execOp
    simp only [ho, he, Sem.run_bind, hr, Result.andThen_ok, Sem.run_pure]
  · obtain ⟨b, off, v, pv, he, hv, hR, rfl⟩ := hk (h1 rfl)
    refine Does.val h hd (v := v) ?_ hR
    unfold execOp
    simp only [ho, he, Sem.run_bind, run_load_leaf t d hu hf hv, Result.andThen_ok, Sem.run_pure]
end
end Go.Pl
/-
  EACH OPERATION, GOES ON: new variables, stores, numbers, addresses. My own work.
-/
namespace Go.Pl
open Go
set_option linter.unusedVariables false
section
variable {O : Nat → Prop} {A0 : Lent} {w0 w : World} {β : Bt} {s : PS} {a : Act} {P : Program}
theorem Does.skip {o : Oper} (hdst : o.dst = none) {w' : World} {β' : Bt} {s' : PS} (hr : (execOp a.eval o).run P w = .ok .skip w') (h : Sim O w0 A0 β' s' (tmf a) w') : Does P o O A0 w0 a w s' :=
  ⟨.skip, undef, w', β', hr, .inr ⟨rfl, rfl⟩, by rw [hdst]; exact h⟩
theorem cellsAt_new (N : Nat → Prop) (cells : Array Value) (el : TypeId) (cs : List CV) (hl : cells.size = cs.length) (h1 : ∀ c ∈ cs, c.one = true)
    (hV : ∀ (j : Nat) (h1 : j < cells.size) (h2 : j < cs.length), V (w.alloc (.cells cells el)) N cells[j] cs[j]) :
    OwnB (w.alloc (.cells cells el)) w.heap.size cs.length ∧ CellsAt (w.alloc (.cells cells el)) N w.heap.size 0 cs := by
  have hb : (w.alloc (.cells cells el)).heap[w.heap.size]? = some (.cells cells el (0, 0)) := by
    show (w.heap.push _)[w.heap.size]? = _
    simp
  refine ⟨⟨cells, el, hb, by omega⟩, h1, fun j hj => ⟨cells[j], ?_, hV j (by omega) hj⟩⟩
  simp only [World.cell?, hb]
  simp [show j < cells.size by omega]
theorem ok_alloc {o : Oper} {el : TypeId} {z : List CV} {i : TypeInfo} {zv : Value} {d : Nat} (ho : o.op = .alloc el) (h : Sim O w0 A0 β s (tmf a) w) (hdst : o.dst = some d) (hd : d < a.tmps.size)
    (hi : P.info? el = some i) (hz : i.zero = some zv) (hc : chkL zv.cells.toList z = true) {s' : PS}
    (hs : pstep o.dst s (.alloc z) = some s') : Does P o O A0 w0 a w s' := by
  simp only [pstep, hdst] at hs
  obtain rfl := Option.some.inj hs
  refine ⟨.value (.pointer (some ⟨w.heap.size, 0, none⟩)), _, w.alloc (.cells zv.cells el), fun i => if i = d then some (w.heap.size, 0) else β i, ?_, .inl rfl, ?_⟩
  · unfold execOp
    simp only [ho, Instr.alloc, zeroValue, typeInfo, program, newVar, newRow, newObj, Sem.run_bind, Sem.run, hi, hz, Result.andThen_ok, Sem.run_pure]
    rfl
  · rw [hdst]
    refine sim_new h hd zv.cells el _ _ _ (Nat.lt_succ_self _) ?_ ?_
    · intro N he
      obtain ⟨hl, h1, hV⟩ := chkL_V (w := w.alloc (.cells zv.cells el)) (N := N) hc
      obtain ⟨h2, h3⟩ := cellsAt_new N zv.cells el z (by simpa using hl) h1 (fun j h1 h2 => by have := hV j (by simpa using h1) h2; simpa using this)
      exact ⟨w.heap.size, 0, rfl, by simpa using h2, h3⟩
    · intro N β' bx' hβ hb
      exact ⟨⟨by rw [hb]; exact Nat.le_refl _, rfl⟩, fun _ _ => ⟨w.heap.size, 0, hβ, rfl⟩⟩
theorem ok_box {o : Oper} {el : TypeId} {x : Operand} {y : PO} {n d : Nat} (ho : o.op = .box el x) (h : Sim O w0 A0 β s (tmf a) w) (hdst : o.dst = some d) (hd : d < a.tmps.size)
    (hc : chkPO x y = true) (hn : 0 < n) {s' : PS} (hs : pstep o.dst s (.box n y) = some s') : Does P o O A0 w0 a w s' := by
  simp only [pstep, hdst] at hs
  split at hs
  · rename_i e v he hv
    obtain rfl := Option.some.inj he
    split at hs
    · rename_i hlen
      obtain rfl := Option.some.inj hs
      have hV := evc_V h hc hv
      refine ⟨.value (.pointer (some ⟨w.heap.size, 0, none⟩)), _, w.alloc (.cells (a.eval x).cells el), fun i => if i = d then some (w.heap.size, 0) else β i, ?_, .inl rfl, ?_⟩
      · unfold execOp
        simp only [ho, Instr.box, newVar, newRow, newObj, Sem.run_bind, Sem.run, Result.andThen_ok, Sem.run_pure]
        rfl
      · rw [hdst]
        refine sim_new h hd _ el _ _ _ (Nat.lt_succ_self _) ?_ ?_
        · intro N he
          obtain ⟨h1, h2, h3⟩ := V.cells (hV.ext he) (by omega)
          obtain ⟨h4, h5⟩ := cellsAt_new N (a.eval x).cells el v.cells h1 h2 h3
          exact ⟨w.heap.size, 0, rfl, by simpa using h4, h5⟩
        · intro N β' bx' hβ hb
          exact ⟨⟨by rw [hb]; exact Nat.le_refl _, rfl⟩, fun _ _ => ⟨w.heap.size, 0, hβ, rfl⟩⟩
    · cases hs
  · cases hs
theorem run_store_cells {b off : Nat} {arr : Array Value} {el t : TypeId} {i : TypeInfo} {v : Value} (hb : w.heap[b]? = some (.cells arr el (0, 0))) (hi : P.info? t = some i) (hn : v.cells.size = i.size)
    (hl : off + v.cells.size ≤ arr.size) (h1 : ∀ x ∈ v.cells.toList, x.oneCell' = true) :
    (Instr.storeAt t (.pointer (some ⟨b, off, none⟩)) v).run P w = .ok () (w.setRow b (arr.toList.take off ++ v.cells.toList ++ arr.toList.drop (off + v.cells.size)).toArray) := by
  have := run_storeCells_at (P := P) b off el v.cells.toList 0 arr w hb (by simpa using hl) h1
  simp only [Nat.add_zero, Array.length_toList] at this
  simp [Instr.storeAt, Instr.sureAddr, storeVar, sizeOf, typeInfo, program, Sem.run_bind, Sem.run, hi, hn]
  simpa [hn] using this
theorem spl_length {cs new : List CV} {off : Nat} (h : off + new.length ≤ cs.length) : (spl cs off new).length = cs.length := by
  simp [spl]; omega
theorem spl_get? {cs new : List CV} {off : Nat} (h : off + new.length ≤ cs.length) (j : Nat) :
    (spl cs off new)[j]? = if off ≤ j ∧ j < off + new.length then new[j - off]? else cs[j]? := by
  have ht : (cs.take off).length = off := by simp; omega
  unfold spl
  split
  · rename_i h1
    rw [List.getElem?_append_right (by omega), List.getElem?_append_left (by omega), ht]
  · rename_i h1
    by_cases h2 : j < off
    · rw [List.getElem?_append_left (by omega), List.getElem?_take, if_pos h2]
    · rw [List.getElem?_append_right (by omega), List.getElem?_append_right (by omega), List.getElem?_drop, ht]
      congr 1
      omega
theorem spl_get {cs new : List CV} {off : Nat} (h : off + new.length ≤ cs.length) (j : Nat) (hj : j < (spl cs off new).length) :
    (spl cs off new)[j] = if h1 : off ≤ j ∧ j < off + new.length then new[j - off]'(by omega) else cs[j]'(by rw [spl_length h] at hj; exact hj) := by
  have hj' : j < cs.length := by rw [spl_length h] at hj; exact hj
  have := spl_get? h j
  rw [List.getElem?_eq_getElem hj] at this
  split at this
  · rename_i h1
    rw [List.getElem?_eq_getElem (by omega)] at this
    rw [dif_pos h1]; exact Option.some.inj this
  · rename_i h1
    rw [List.getElem?_eq_getElem hj'] at this
    rw [dif_neg h1]; exact Option.some.inj this
theorem cellsAt_write {N N' : Nat → Prop} {b base off : Nat} {arr : Array Value} {el : TypeId} {cs : List CV} {v : Value} {c : CV} (hb : w.heap[b]? = some (.cells arr el (0, 0)))
    (hsz : base + cs.length ≤ arr.size) (hcs : CellsAt w N b base cs) (hV : V w N v c) (hn : 0 < c.cells.length) (hl : off + c.cells.length ≤ cs.length)
    (he : Ext w N (w.setRow b (arr.toList.take (base + off) ++ v.cells.toList ++ arr.toList.drop (base + off + v.cells.size)).toArray) N') :
    CellsAt (w.setRow b (arr.toList.take (base + off) ++ v.cells.toList ++ arr.toList.drop (base + off + v.cells.size)).toArray) N' b base (spl cs off c.cells) := by
  obtain ⟨h1, h2, h3⟩ := hV.cells hn
  refine ⟨?_, ?_⟩
  · intro x hx
    simp only [spl, List.mem_append] at hx
    rcases hx with hx | hx | hx
    · exact hcs.1 x (List.mem_of_mem_take hx)
    · exact h2 x hx
    · exact hcs.1 x (List.mem_of_mem_drop hx)
  · intro j hj
    have hj' : j < cs.length := by rw [spl_length hl] at hj; exact hj
    have hcell : ∀ k : Nat, (w.setRow b (arr.toList.take (base + off) ++ v.cells.toList ++ arr.toList.drop (base + off + v.cells.size)).toArray).cell? ⟨b, k, none⟩ =
        (arr.toList.take (base + off) ++ v.cells.toList ++ arr.toList.drop (base + off + v.cells.size))[k]? := by
      intro k
      simp [World.cell?, setRow_heap w b arr _ el _ hb]
    rw [hcell, spl_get hl j hj]
    obtain ⟨u, hu, hU⟩ := hcs.2 j hj'
    have hu' : arr[base + j]? = some u := by simpa [World.cell?, hb] using hu
    split
    · rename_i hin
      have hk : j - off < v.cells.size := by omega
      refine ⟨v.cells[j - off], ?_, (h3 (j - off) hk (by omega)).ext he⟩
      rw [List.append_assoc, List.getElem?_append_right (by simp; omega), List.getElem?_append_left (by simp; omega)]
      simp only [List.length_take, Array.length_toList]
      rw [show base + j - min (base + off) arr.size = j - off by omega]
      simp [hk]
    · rename_i hin
      refine ⟨u, ?_, hU.ext he⟩
      by_cases h2 : j < off
      · rw [List.append_assoc, List.getElem?_append_left (by simp; omega)]
        simp only [List.getElem?_take, Array.getElem?_toList]
        rw [if_pos (by omega)]
        exact hu'
      · rw [List.getElem?_append_right (by simp; omega)]
        simp only [List.length_append, List.length_take, Array.length_toList, List.getElem?_drop, Array.getElem?_toList]
        rw [show base + off + v.cells.size + (base + j - (min (base + off) arr.size + v.cells.size)) = base + j by omega]
        exact hu'
theorem write_size {arr : Array Value} {k : Nat} {v : Value} (h : k + v.cells.size ≤ arr.size) :
    (arr.toList.take k ++ v.cells.toList ++ arr.toList.drop (k + v.cells.size)).toArray.size = arr.size := by
  simp; omega
theorem splP_length {cs new : List PV} {off : Nat} (h : off + new.length ≤ cs.length) : (splP cs off new).length = cs.length := by
  simp [splP]; omega
theorem splP_get {cs new : List PV} {off : Nat} (h : off + new.length ≤ cs.length) (j : Nat) (hj : j < (splP cs off new).length) :
    (splP cs off new)[j] = if h1 : off ≤ j ∧ j < off + new.length then new[j - off]'(by omega) else cs[j]'(by rw [splP_length h] at hj; exact hj) := by
  have hj' : j < cs.length := by rw [splP_length h] at hj; exact hj
  have ht : (cs.take off).length = off := by simp; omega
  have key : (splP cs off new)[j]? = if off ≤ j ∧ j < off + new.length then new[j - off]? else cs[j]? := by
    unfold splP
    split
    · rename_i h1
      rw [List.getElem?_append_right (by omega), List.getElem?_append_left (by omega), ht]
    · rename_i h1
      by_cases h2 : j < off
      · rw [List.getElem?_append_left (by omega), List.getElem?_take, if_pos h2]
      · rw [List.getElem?_append_right (by omega), List.getElem?_append_right (by omega), List.getElem?_drop, ht]
        congr 1
        omega
  rw [List.getElem?_eq_getElem hj] at key
  split at key
  · rename_i h1
    rw [List.getElem?_eq_getElem (by omega)] at key
    rw [dif_pos h1]; exact Option.some.inj key
  · rename_i h1
    rw [List.getElem?_eq_getElem hj'] at key
    rw [dif_neg h1]; exact Option.some.inj key
theorem cellsP_write {N N' : Nat → Prop} {β' : Bt} {bx bx' : Nat → Box} {b base off : Nat} {arr : Array Value} {el : TypeId} {ps new : List PV} {v : Value} (hb : w.heap[b]? = some (.cells arr el (0, 0)))
    (hsz : base + ps.length ≤ arr.size) (hcs : CellsP w N β bx b base ps) (h1 : v.cells.size = new.length) (h2 : ∀ p ∈ new, p.one = true) (h3 : ∀ (j : Nat) (h1 : j < v.cells.size) (h2 : j < new.length), R w N β bx v.cells[j] new[j]) (hl : off + new.length ≤ ps.length)
    (he : Ext w N (w.setRow b (arr.toList.take (base + off) ++ v.cells.toList ++ arr.toList.drop (base + off + v.cells.size)).toArray) N')
    (hc : ∀ d, Compat w (w.setRow b (arr.toList.take (base + off) ++ v.cells.toList ++ arr.toList.drop (base + off + v.cells.size)).toArray) (β d) (β' d) (bx d) (bx' d)) :
    CellsP (w.setRow b (arr.toList.take (base + off) ++ v.cells.toList ++ arr.toList.drop (base + off + v.cells.size)).toArray) N' β' bx' b base (splP ps off new) := by
  refine ⟨?_, ?_⟩
  · intro x hx
    simp only [splP, List.mem_append] at hx
    rcases hx with hx | hx | hx
    · exact hcs.1 x (List.mem_of_mem_take hx)
    · exact h2 x hx
    · exact hcs.1 x (List.mem_of_mem_drop hx)
  · intro j hj
    have hj' : j < ps.length := by rw [splP_length hl] at hj; exact hj
    have hcell : ∀ k : Nat, (w.setRow b (arr.toList.take (base + off) ++ v.cells.toList ++ arr.toList.drop (base + off + v.cells.size)).toArray).cell? ⟨b, k, none⟩ =
        (arr.toList.take (base + off) ++ v.cells.toList ++ arr.toList.drop (base + off + v.cells.size))[k]? := by
      intro k
      simp [World.cell?, setRow_heap w b arr _ el _ hb]
    rw [hcell, splP_get hl j hj]
    obtain ⟨u, hu, hU⟩ := hcs.2 j hj'
    have hu' : arr[base + j]? = some u := by simpa [World.cell?, hb] using hu
    split
    · rename_i hin
      have hk : j - off < v.cells.size := by omega
      refine ⟨v.cells[j - off], ?_, (h3 (j - off) hk (by omega)).change he hc⟩
      rw [List.append_assoc, List.getElem?_append_right (by simp; omega), List.getElem?_append_left (by simp; omega)]
      simp only [List.length_take, Array.length_toList]
      rw [show base + j - min (base + off) arr.size = j - off by omega]
      simp [hk]
    · rename_i hin
      refine ⟨u, ?_, hU.change he hc⟩
      by_cases h2 : j < off
      · rw [List.append_assoc, List.getElem?_append_left (by simp; omega)]
        simp only [List.getElem?_take, Array.getElem?_toList]
        rw [if_pos (by omega)]
        exact hu'
      · rw [List.getElem?_append_right (by simp; omega)]
        simp only [List.length_append, List.length_take, Array.length_toList, List.getElem?_drop, Array.getElem?_toList]
        rw [show base + off + v.cells.size + (base + j - (min (base + off) arr.size + v.cells.size)) = base + j by omega]
        exact hu'
theorem CellsAt.toP {N : Nat → Prop} {bx : Nat → Box} {b off : Nat} {cs : List CV} (h : CellsAt w N b off cs) : CellsP w N β bx b off (cs.map .c) :=
  ⟨fun p hp => by obtain ⟨c, hc, rfl⟩ := List.mem_map.1 hp; exact h.1 c hc, fun j hj => by
    obtain ⟨v, hv, hV⟩ := h.2 j (by simpa using hj)
    exact ⟨v, hv, by rw [List.getElem_map]; exact hV⟩⟩
theorem var_cells (h : Sim O w0 A0 β s (tmf a) w) {d u : Nat} {st : BSt} {ps : List PV} (hb : s.bx d = ⟨u, st⟩) (hst : st = .vp ps ∨ ∃ cs, st = .var cs ∧ ps = cs.map .c) :
    ∃ b base, β d = some (b, base) ∧ OwnB w b (base + ps.length) ∧ CellsP w (Nn O β s.bx) β s.bx b base ps := by
  rcases hst with rfl | ⟨cs, rfl, rfl⟩
  · exact h.vps d ps (by rw [hb])
  · have hB := h.boxes d
    rw [hb] at hB
    obtain ⟨b, base, h1, h2, h3⟩ := hB
    exact ⟨b, base, h1, by simpa using h2, h3.toP⟩
theorem store_P {o : Oper} {t : TypeId} {x y : Operand} {n : Nat} {i : TypeInfo} (ho : o.op = .store t x y) (h : Sim O w0 A0 β s (tmf a) w) (hdst : o.dst = none)
    (hi : P.info? t = some i) (hin : i.size = n) {d u off : Nat} {st : BSt} {ps new : List PV} (hb : s.bx d = ⟨u, st⟩) (hst : st = .vp ps ∨ ∃ cs, st = .var cs ∧ ps = cs.map .c) (hR : R w (Nn O β s.bx) β s.bx (a.eval x) (.ptr d u off))
    (h1 : (a.eval y).cells.size = new.length) (h0 : ∀ q ∈ (a.eval y).cells.toList, q.oneCell' = true) (h2 : ∀ p ∈ new, p.one = true) (h3 : ∀ (j : Nat) (h1 : j < (a.eval y).cells.size) (h2 : j < new.length), R w (Nn O β s.bx) β s.bx (a.eval y).cells[j] new[j])
    (hlen : new.length = n) (hl : off + n ≤ ps.length) : Does P o O A0 w0 a w (s.box d ⟨u, .vp (splP ps off new)⟩) := by
  have hisv : st.isv = true := by rcases hst with rfl | ⟨cs, rfl, _⟩ <;> rfl
  have howned : (s.bx d).st.owned = true := by rw [hb]; rcases hst with rfl | ⟨cs, rfl, _⟩ <;> rfl
  obtain ⟨b, base, hβ, he⟩ := hR.2 (by rw [hb]) (by rw [hb]; exact hisv)
  obtain ⟨b', base', hp', hown, hcs⟩ := var_cells h hb hst
  rw [hβ] at hp'
  obtain ⟨rfl, rfl⟩ := Prod.mk.inj (Option.some.inj hp')
  obtain ⟨arr, el, hheap, hsz⟩ := hown
  have hrun := run_store_cells (P := P) (t := t) (i := i) (v := a.eval y) (off := base + off) hheap hi (by omega) (by omega) h0
  have hbr := h.change (w' := w.setRow b _) d (some (b, base)) ⟨u, .vp (splP ps off new)⟩ rfl rfl rfl (by rw [setRow_size]; exact Nat.le_refl _)
    (fun k hk hne => setRow_other w b k (arr.toList.take (base + off) ++ (a.eval y).cells.toList ++ arr.toList.drop (base + off + (a.eval y).cells.size)).toArray (hne _ howned hβ))
    (.inr ⟨by rw [hb], .inr ⟨hβ.symm, fun _ => (by rw [hb]; exact hisv), fun sz es hs => (by cases hs)⟩⟩)
    (fun p _ hp => .inl ⟨howned, (b, base), hβ, by have := Option.some.inj hp; rw [← this]⟩) trivial
    (fun hext hcomp ps' hps' => by
      cases hps'
      refine ⟨b, base, rfl, ⟨_, el, setRow_heap w b arr _ el _ hheap, ?_⟩, cellsP_write hheap hsz hcs h1 h2 h3 (by omega) hext hcomp⟩
      rw [splP_length (by omega), write_size (by omega)]; exact hsz)
  refine Does.skip hdst ?_ hbr
  unfold execOp
  simp only [ho, he, Sem.run_bind, hrun, Result.andThen_ok, Sem.run_pure]
theorem ok_store {o : Oper} {t : TypeId} {x y : Operand} {x' y' : PO} {n : Nat} {av : List Nat} {i : TypeInfo} (ho : o.op = .store t x y) (h : Sim O w0 A0 β s (tmf a) w) (hdst : o.dst = none)
    (hx : chkPO x x' = true) (hy : chkPO y y' = true) (hi : P.info? t = some i) (hin : i.size = n) (hn : 0 < n) {s' : PS} (hs : pstep o.dst s (.store n x' y' av) = some s') : Does P o O A0 w0 a w s' := by
  have hR := ev_R h hx
  simp only [pstep] at hs
  split at hs
  · -- a variable
    rename_i d ver off v hp hv
    have hV := evc_V h hy hv
    rw [hp] at hR
    split at hs
    · cases hs
    split at hs
    · rename_i u cs hb
      split at hs
      · rename_i hcond
        obtain ⟨rfl, hlen, hl⟩ := hcond
        obtain rfl := Option.some.inj hs
        obtain ⟨b, base, hβ, he⟩ := hR.2 (by rw [hb]) (by rw [hb]; rfl)
        have hB := h.boxes d
        rw [hb] at hB
        obtain ⟨b', base', hp', hown, hcs⟩ := hB
        rw [hβ] at hp'
        obtain ⟨rfl, rfl⟩ := Prod.mk.inj (Option.some.inj hp')
        obtain ⟨arr, el, hheap, hsz⟩ := hown
        obtain ⟨h1, h2, h3⟩ := hV.cells (by omega)
        have hrun := run_store_cells (P := P) (t := t) (i := i) (v := a.eval y) (off := base + off) hheap hi (by omega) (by omega)
          (fun q hq => by obtain ⟨k, hk, rfl⟩ := List.mem_iff_getElem.1 hq; have := (h3 k (by simpa using hk) (by simp at hk; omega)).oneCell (h2 _ (List.getElem_mem _)); simpa using this)
        have howned : (s.bx d).st.owned = true := by rw [hb]; rfl
        have hbr := h.change (w' := w.setRow b _) d (some (b, base)) ⟨u, .var (spl cs off v.cells)⟩ rfl rfl rfl (by rw [setRow_size]; exact Nat.le_refl _)
          (fun k hk hne => setRow_other w b k (arr.toList.take (base + off) ++ (a.eval y).cells.toList ++ arr.toList.drop (base + off + (a.eval y).cells.size)).toArray (hne _ howned hβ))
          (.inr ⟨by rw [hb], .inr ⟨hβ.symm, fun _ => (by rw [hb]; rfl), fun sz es hs => (by cases hs)⟩⟩)
          (fun p _ hp => .inl ⟨howned, (b, base), hβ, by have := Option.some.inj hp; rw [← this]⟩)
          (by
            refine ⟨b, base, rfl, ⟨_, el, setRow_heap w b arr _ el _ hheap, ?_⟩, ?_⟩
            · rw [spl_length (by omega), write_size (by omega)]; exact hsz
            · refine cellsAt_write hheap hsz hcs hV (by omega) (by omega) ⟨by rw [setRow_size]; exact Nat.le_refl _, fun k hk hN => setRow_other w b k _ ?_, fun k hk hN => ?_⟩
              · exact fun e => hN (.inr ⟨d, base, howned, by rw [hβ, e]⟩)
              · rcases hN with hN | ⟨q, base', hq, hq'⟩
                · exact .inl hN
                · by_cases e : q = d
                  · subst e; simp only [if_true] at hq'; exact .inr ⟨q, base', howned, by rw [hβ]; exact hq'⟩
                  · simp only [if_neg e] at hq hq'; exact .inr ⟨q, base', hq, hq'⟩)
        refine Does.skip hdst ?_ hbr
        unfold execOp
        simp only [ho, he, Sem.run_bind, hrun, Result.andThen_ok, Sem.run_pure]
      · cases hs
    · rename_i u ps hb
      split at hs
      · rename_i hcond
        obtain ⟨rfl, hlen, hl⟩ := hcond
        obtain rfl := Option.some.inj hs
        obtain ⟨h1, h2, h3⟩ := hV.cells (by omega)
        refine store_P ho h hdst hi hin hb (.inl rfl) hR (by simpa using h1) ?_ ?_ ?_ (by simpa using hlen) hl
        · intro q hq
          obtain ⟨k, hk, rfl⟩ := List.mem_iff_getElem.1 hq
          have := (h3 k (by simpa using hk) (by simp at hk; omega)).oneCell (h2 _ (List.getElem_mem _)); simpa using this
        · intro p hp
          obtain ⟨c, hc, rfl⟩ := List.mem_map.1 hp
          exact h2 c hc
        · intro j hj hj'
          have := h3 j hj (by simpa using hj')
          rw [List.getElem_map]
          exact this
      · cases hs
    · cases hs
  · -- a reference, into a variable
    rename_i d ver off hp hv
    rw [hp] at hR
    have hRy := ev_R h hy
    split at hs
    · cases hs
    split at hs
    · rename_i hcond
      obtain ⟨hrf, hn1⟩ := hcond
      have hone : (a.eval y).oneCell' = true ∧ (s.ev y').one = true := by
        cases hq : s.ev y' with
        | osl d' v' o' l' => rw [hq] at hRy; exact ⟨hRy.1.2, rfl⟩
        | ptr d' v' o' => rw [hq] at hRy; exact ⟨hRy.1.2, rfl⟩
        | _ => rw [hq] at hrf; cases hrf
      have hcells : (a.eval y).cells = #[a.eval y] := by
        have := hone.1
        revert this
        cases a.eval y <;> simp [Value.oneCell', Value.cells]
      have fin : ∀ (u : Nat) (st : BSt) (ps : List PV), s.bx d = ⟨u, st⟩ → (st = .vp ps ∨ ∃ cs, st = .var cs ∧ ps = cs.map .c) → u = ver → off + n ≤ ps.length → Does P o O A0 w0 a w (s.box d ⟨u, .vp (splP ps off [s.ev y'])⟩) := by
        intro u st ps hb hst hu hl
        subst hu
        refine store_P ho h hdst hi hin hb hst hR (by rw [hcells]; rfl) ?_ ?_ ?_ (by simp [hn1]) hl
        · intro q hq
          rw [hcells] at hq
          obtain rfl := List.mem_singleton.1 hq
          exact hone.1
        · intro p hp
          obtain rfl := List.mem_singleton.1 hp
          exact hone.2
        · intro j hj hj'
          have : j = 0 := by simp at hj'; omega
          subst this
          simp only [hcells]
          exact hRy
      split at hs
      · rename_i u cs hb
        split at hs
        · rename_i hc
          obtain rfl := Option.some.inj hs
          exact fin _ _ _ hb (.inr ⟨cs, rfl, rfl⟩) hc.1 (by simpa using hc.2)
        · cases hs
      · rename_i u ps hb
        split at hs
        · rename_i hc
          obtain rfl := Option.some.inj hs
          exact fin _ _ _ hb (.inl rfl) hc.1 hc.2
        · cases hs
      · cases hs
    · cases hs
  · -- an element of a slice
    rename_i d ver k off v hp hv
    have hV := evc_V h hy hv
    rw [hp] at hR
    split at hs
    · cases hs
    split at hs
    · rename_i u sz es hb
      split at hs
      · rename_i e he'
        split at hs
        · rename_i hcond
          obtain ⟨rfl, hlen, hl⟩ := hcond
          obtain rfl := Option.some.inj hs
          obtain ⟨b, hβ, he⟩ := hR.2 (by rw [hb]) sz es (by rw [hb])
          have hB := h.boxes d
          rw [hb] at hB
          obtain ⟨hz, hB⟩ := hB
          rcases hB with ⟨hnone, _⟩ | ⟨b', hp', hown, hcs⟩
          · rw [hβ] at hnone; cases hnone
          rw [hβ] at hp'
          obtain ⟨rfl, _⟩ := Prod.mk.inj (Option.some.inj hp')
          obtain ⟨hk, rfl⟩ := List.getElem?_eq_some_iff.1 he'
          obtain ⟨arr, el, hheap, hsz⟩ := hown
          have hek : es[k].length = sz := hz _ (List.getElem_mem _)
          have hmul : k * sz + sz ≤ es.length * sz := by
            have : (k + 1) * sz ≤ es.length * sz := Nat.mul_le_mul_right _ hk
            rw [Nat.add_mul, Nat.one_mul] at this; exact this
          obtain ⟨h1, h2, h3⟩ := hV.cells (by omega)
          have hrun := run_store_cells (P := P) (t := t) (i := i) (v := a.eval y) (off := k * sz + off) hheap hi (by omega) (by omega)
            (fun q hq => by obtain ⟨k, hk, rfl⟩ := List.mem_iff_getElem.1 hq; have := (h3 k (by simpa using hk) (by simp at hk; omega)).oneCell (h2 _ (List.getElem_mem _)); simpa using this)
          have howned : (s.bx d).st.owned = true := by rw [hb]; rfl
          have hext : ∀ N' : Nat → Prop, (∀ q, q < w.heap.size → N' q → Nn O β s.bx q) → Ext w (Nn O β s.bx) (w.setRow b (arr.toList.take (k * sz + off) ++ (a.eval y).cells.toList ++ arr.toList.drop (k * sz + off + (a.eval y).cells.size)).toArray) N' :=
            fun N' hN' => ⟨by rw [setRow_size]; exact Nat.le_refl _, fun q hq hN => setRow_other w b q _ (fun e => hN (.inr ⟨d, 0, howned, by rw [hβ, e]⟩)), hN'⟩
          have hbr := h.change (w' := w.setRow b _) d (some (b, 0)) ⟨u, .sl sz (es.set k (spl es[k] off v.cells))⟩ rfl rfl rfl (by rw [setRow_size]; exact Nat.le_refl _)
            (fun k' hk hne => setRow_other w b k' (arr.toList.take (k * sz + off) ++ (a.eval y).cells.toList ++ arr.toList.drop (k * sz + off + (a.eval y).cells.size)).toArray (hne _ howned hβ))
            (.inr ⟨by rw [hb], .inr ⟨hβ.symm, fun hcs' => (by cases hcs'), fun sz' es' hs => ⟨⟨es, by rw [hb]; cases hs; rfl⟩, fun q n hq hw => by
              rw [hβ] at hq
              obtain rfl := Option.some.inj hq
              obtain ⟨arr', el', h1', h2'⟩ := hw
              rw [hheap] at h1'
              cases h1'
              exact ⟨_, el, setRow_heap w b arr _ el _ hheap, by rw [write_size (by omega)]; exact h2'⟩⟩⟩⟩)
            (fun p _ hp => .inl ⟨howned, (b, 0), hβ, by have := Option.some.inj hp; rw [← this]⟩)
            (by
              have hN' : ∀ q, q < w.heap.size → Nn O (fun i => if i = d then some (b, 0) else β i) (fun i => if i = d then ⟨u, .sl sz (es.set k (spl es[k] off v.cells))⟩ else s.bx i) q → Nn O β s.bx q := by
                intro q hq hN
                rcases hN with hN | ⟨r, base', hr, hr'⟩
                · exact .inl hN
                · by_cases e : r = d
                  · subst e; simp only [if_true] at hr'; exact .inr ⟨r, base', howned, by rw [hβ]; exact hr'⟩
                  · simp only [if_neg e] at hr hr'; exact .inr ⟨r, base', hr, hr'⟩
              refine ⟨?_, .inr ⟨b, rfl, ⟨_, el, setRow_heap w b arr _ el _ hheap, ?_⟩, ?_⟩⟩
              · intro e he
                rcases List.mem_or_eq_of_mem_set he with he | rfl
                · exact hz e he
                · rw [spl_length (by omega)]; exact hek
              · rw [write_size (by omega), List.length_set]; exact hsz
              · intro j hj
                have hj' : j < es.length := by simpa using hj
                have hjm : j * sz + sz ≤ es.length * sz := by
                  have : (j + 1) * sz ≤ es.length * sz := Nat.mul_le_mul_right _ hj'
                  rw [Nat.add_mul, Nat.one_mul] at this; exact this
                by_cases e : j = k
                · subst e
                  simp only [List.getElem_set_self]
                  exact cellsAt_write hheap (by omega) (hcs j hj') hV (by omega) (by omega) (hext _ hN')
                · simp only [List.getElem_set_ne (Ne.symm e)]
                  have hc := hcs j hj'
                  have hjl : es[j].length = sz := hz _ (List.getElem_mem _)
                  refine ⟨hc.1, fun m hm => ?_⟩
                  obtain ⟨u', hu, hU⟩ := hc.2 m hm
                  refine ⟨u', ?_, hU.ext (hext _ hN')⟩
                  have hu' : arr[j * sz + m]? = some u' := by simpa [World.cell?, hheap] using hu
                  have hcell : (w.setRow b (arr.toList.take (k * sz + off) ++ (a.eval y).cells.toList ++ arr.toList.drop (k * sz + off + (a.eval y).cells.size)).toArray).cell? ⟨b, j * sz + m, none⟩ =
                      (arr.toList.take (k * sz + off) ++ (a.eval y).cells.toList ++ arr.toList.drop (k * sz + off + (a.eval y).cells.size))[j * sz + m]? := by
                    simp [World.cell?, setRow_heap w b arr _ el _ hheap]
                  rw [hcell]
                  rcases Nat.lt_or_gt_of_ne e with hlt | hgt
                  · have : (j + 1) * sz ≤ k * sz := Nat.mul_le_mul_right _ hlt
                    rw [Nat.add_mul, Nat.one_mul] at this
                    rw [List.append_assoc, List.getElem?_append_left (by simp; omega)]
                    simp only [List.getElem?_take, Array.getElem?_toList]
                    rw [if_pos (by omega)]
                    exact hu'
                  · have : (k + 1) * sz ≤ j * sz := Nat.mul_le_mul_right _ hgt
                    rw [Nat.add_mul, Nat.one_mul] at this
                    rw [List.getElem?_append_right (by simp; omega)]
                    simp only [List.length_append, List.length_take, Array.length_toList, List.getElem?_drop, Array.getElem?_toList]
                    rw [show k * sz + off + (a.eval y).cells.size + (j * sz + m - (min (k * sz + off) arr.size + (a.eval y).cells.size)) = j * sz + m by omega]
                    exact hu')
          refine Does.skip hdst ?_ hbr
          unfold execOp
          simp only [ho, he, Sem.run_bind, hrun, Result.andThen_ok, Sem.run_pure]
        · cases hs
      · cases hs
    · cases hs
  · cases hs
end
end Go.Pl
/-
  '==' OF VALUES THAT LIE FLAT: whole numbers, bools, strings, structs and arrays of them. My own work.
-/
namespace Go.Pl
open Go
set_option linter.unusedVariables false
def fieldsShape (P : Program) (sh : TypeId → Option (List LK)) : Nat → List Field → Option (List LK)
  | _, [] => some []
  | o, f :: fs => match sh f.type with
    | some l => if f.name ≠ "_" ∧ f.offset = o ∧ l.length = P.cellsOf f.type then (fieldsShape P sh (o + l.length) fs).map (l ++ ·) else none
    | none => none
def repShape (l : List LK) : Nat → List LK
  | 0 => []
  | n + 1 => l ++ repShape l n
def shapeOf (P : Program) : Nat → TypeId → Option (List LK)
  | 0, _ => none
  | d + 1, t => match P.underlying t with
    | some .bool => some [.b]
    | some (.int _) => some [.i]
    | some .string => some [.s]
    | some (.struct fs) => if P.stoodInHeld t then none else fieldsShape P (shapeOf P d) 0 fs.toList
    | some (.array n e) => match shapeOf P d e with
      | some l => if l.length = P.cellsOf e then some (repShape l n) else none
      | none => none
    | _ => none
theorem shEq_append : ∀ {l m : List LK} {a b c d : List CV} {r : Bool}, a.length = l.length → c.length = l.length → shEq (l ++ m) (a ++ b) (c ++ d) = some r →
    ∃ x y, shEq l a c = some x ∧ shEq m b d = some y ∧ r = (x && y)
  | [], m, [], b, [], d, r, _, _, h => ⟨true, r, rfl, h, rfl⟩
  | [], m, _ :: _, b, _, d, r, hl, _, _ => by simp at hl
  | [], m, [], b, _ :: _, d, r, _, hl, _ => by simp at hl
  | _ :: _, m, [], b, _, d, r, hl, _, _ => by simp at hl
  | _ :: _, m, _ :: _, b, [], d, r, _, hl, _ => by simp at hl
  | k :: l, m, p :: a, b, q :: c, d, r, hl, hl', h => by
    have step : ∀ {z : Bool}, (shEq (l ++ m) (a ++ b) (c ++ d)).map (z && ·) = some r → ∃ x y, (shEq l a c).map (z && ·) = some x ∧ shEq m b d = some y ∧ r = (x && y) := by
      intro z h
      cases hs : shEq (l ++ m) (a ++ b) (c ++ d) with
      | none => rw [hs] at h; cases h
      | some u =>
        rw [hs] at h
        obtain ⟨x, y, hx, hy, rfl⟩ := shEq_append (by simpa using hl) (by simpa using hl') hs
        exact ⟨z && x, y, by rw [hx]; rfl, hy, by rw [← Option.some.inj h, Bool.and_assoc]⟩
    cases k <;> cases p <;> simp only [List.cons_append, shEq] at h ⊢ <;> (try (cases h; done)) <;> cases q <;> simp only [shEq] at h ⊢ <;> (try (cases h; done))
    · split at h
      · rename_i hk; simp only [if_pos hk]; exact step h
      · cases h
    · exact step h
    · exact step h
structure Reads (w : World) (N : Nat → Prop) (xs : Array Value) (cs : List CV) : Prop where
  len : xs.size = cs.length
  get : ∀ (i : Nat) (h1 : i < xs.size) (h2 : i < cs.length), V w N xs[i] cs[i]
theorem Reads.extract {w : World} {N : Nat → Prop} {xs : Array Value} {cs : List CV} (h : Reads w N xs cs) (o n : Nat) (hn : o + n ≤ cs.length) :
    Reads w N (xs.extract o (o + n)) ((cs.drop o).take n) := by
  have hl := h.len
  refine ⟨by simp; omega, fun i h1 h2 => ?_⟩
  have := h.get (o + i) (by simp at h1 h2; omega) (by simp at h2; omega)
  simpa using this
section
variable {P : Program} {w : World} {N : Nat → Prop}
theorem part_leaf {t : TypeId} {d : TypeDesc} (hu : P.underlying t = some d) (hd : d.isRow = false) {xs : Array Value} {o : Nat} (ho : o < xs.size) :
    (part t xs o).run P w = .ok xs[o] w := by
  have hagg : (isAgg t).run P w = .ok false w := by
    unfold isAgg
    rw [Sem.run_bind, run_underlying hu w]
    cases d <;> simp_all [TypeDesc.isRow]
  simp [part, Sem.run_bind, hagg, ho]
theorem part_row {t : TypeId} {d : TypeDesc} (hu : P.underlying t = some d) (hd : d.isRow = true) {i : TypeInfo} (hi : P.info? t = some i) {xs : Array Value} {o : Nat} :
    (part t xs o).run P w = .ok (.agg (xs.extract o (o + P.cellsOf t))) w := by
  have hagg : (isAgg t).run P w = .ok true w := by
    unfold isAgg
    rw [Sem.run_bind, run_underlying hu w]
    cases d <;> simp_all [TypeDesc.isRow]
  simp [part, Sem.run_bind, hagg, sizeOf, typeInfo, hi, Program.cellsOf]
theorem leaf_one {cs : List CV} {o : Nat} (ho : o + 1 ≤ cs.length) : (cs.drop o).take 1 = [cs[o]] := by
  rw [List.take_one, List.head?_drop, List.getElem?_eq_getElem (by omega)]; rfl
def EqAt (P : Program) (w : World) (N : Nat → Prop) (d : Nat) (t : TypeId) (sh : List LK) : Prop :=
  ∀ (D : Nat), d ≤ D → ∀ (xs ys : Array Value) (cs ds : List CV) (o : Nat) (r : Bool), Reads w N xs cs → Reads w N ys ds → o + sh.length ≤ cs.length → o + sh.length ≤ ds.length →
    shEq sh ((cs.drop o).take sh.length) ((ds.drop o).take sh.length) = some r →
    ∃ u v, (part t xs o).run P w = .ok u w ∧ (part t ys o).run P w = .ok v w ∧ (Op.equalIn D t u v).run P w = .ok r w
theorem drop_take_split (cs : List CV) (o n m : Nat) : (cs.drop o).take (n + m) = (cs.drop o).take n ++ (cs.drop (o + n)).take m := by
  rw [List.take_add, List.drop_drop]
theorem eqFields_run {d D : Nat} (hD : d ≤ D) {xs ys : Array Value} {cs ds : List CV} (hx : Reads w N xs cs) (hy : Reads w N ys ds)
    (ih : ∀ t sh, shapeOf P d t = some sh → sh.length = P.cellsOf t → EqAt P w N d t sh) : ∀ (fs : List Field) (o : Nat) (sh : List LK), fieldsShape P (shapeOf P d) o fs = some sh →
    ∀ r, o + sh.length ≤ cs.length → o + sh.length ≤ ds.length → shEq sh ((cs.drop o).take sh.length) ((ds.drop o).take sh.length) = some r → (Op.eqFields D xs ys fs).run P w = .ok r w
  | [], o, sh, h, r, _, _, hr => by
    obtain rfl := Option.some.inj h
    simp [shEq] at hr
    subst hr
    rfl
  | f :: fs, o, sh, h, r, hc, hd, hr => by
    simp only [fieldsShape] at h
    split at h
    · rename_i l hl
      split at h
      · rename_i hcond
        obtain ⟨hname, hoff, hlen⟩ := hcond
        cases hrest : fieldsShape P (shapeOf P d) (o + l.length) fs with
        | none => rw [hrest] at h; cases h
        | some m =>
          rw [hrest] at h
          obtain rfl := Option.some.inj h
          simp only [List.length_append] at hc hd hr
          rw [drop_take_split, drop_take_split] at hr
          obtain ⟨x, y, hxx, hyy, rfl⟩ := shEq_append (by simp; omega) (by simp; omega) hr
          obtain ⟨u, v, hu, hv, he⟩ := ih f.type l hl hlen D hD xs ys cs ds o x hx hy (by omega) (by omega) hxx
          have hrec := eqFields_run hD hx hy ih fs (o + l.length) m hrest y (by omega) (by omega) hyy
          simp only [Op.eqFields, hname, ne_eq, not_false_eq_true, if_true, Sem.run_bind, hoff, hu, hv, he, Result.andThen_ok]
          cases x
          · simp
          · simpa using hrec
      · cases h
    · cases h
theorem repShape_length (l : List LK) (n : Nat) : (repShape l n).length = n * l.length := by
  induction n with
  | zero => simp [repShape]
  | succ n ih => simp [repShape, ih, Nat.add_mul]; omega
theorem eqItems_run {d D : Nat} (hD : d ≤ D) {e : TypeId} {l : List LK} (hl : l.length = P.cellsOf e) (ih : EqAt P w N d e l) {xs ys : Array Value} {cs ds : List CV} (hx : Reads w N xs cs) (hy : Reads w N ys ds) :
    ∀ (n k : Nat) (r : Bool), k * l.length + n * l.length ≤ cs.length → k * l.length + n * l.length ≤ ds.length →
    shEq (repShape l n) ((cs.drop (k * l.length)).take (n * l.length)) ((ds.drop (k * l.length)).take (n * l.length)) = some r → (Op.eqItems D e (P.cellsOf e) xs ys (List.range' k n)).run P w = .ok r w
  | 0, k, r, _, _, hr => by
    simp [repShape, shEq] at hr
    subst hr
    rfl
  | n + 1, k, r, hc, hd, hr => by
    rw [Nat.add_mul, Nat.one_mul, Nat.add_comm (n * l.length) l.length] at hc hd hr
    rw [drop_take_split, drop_take_split] at hr
    obtain ⟨x, y, hxx, hyy, rfl⟩ := shEq_append (l := l) (m := repShape l n) (by simp; omega) (by simp; omega) hr
    obtain ⟨u, v, hu, hv, he⟩ := ih D hD xs ys cs ds (k * l.length) x hx hy (by omega) (by omega) hxx
    have hk : k * l.length + l.length = (k + 1) * l.length := by rw [Nat.add_mul, Nat.one_mul]
    have hrec := eqItems_run hD hl ih hx hy n (k + 1) y (by omega) (by omega) (by rw [← hk]; exact hyy)
    simp only [List.range'_succ, Op.eqItems, Sem.run_bind, ← hl, hu, hv, he, Result.andThen_ok]
    rw [← hl] at hrec
    cases x
    · simp
    · simpa using hrec
theorem shape_info {d : Nat} {t : TypeId} {l : List LK} (h : shapeOf P d t = some l) : ∃ i, P.info? t = some i := by
  cases d with
  | zero => cases h
  | succ d =>
    cases hu : P.underlying t with
    | none => simp [shapeOf, hu] at h
    | some dd => exact info_of_underlying hu
theorem eq_part : ∀ (d : Nat) (t : TypeId) (sh : List LK), shapeOf P d t = some sh → sh.length = P.cellsOf t → EqAt P w N d t sh := by
  intro d
  induction d with
  | zero => intro t sh h; cases h
  | succ d ih =>
    intro t sh h hsz D hD xs ys cs ds o r hx hy hc hd' hr
    obtain ⟨D, rfl⟩ : ∃ D', D = D' + 1 := ⟨D - 1, by omega⟩
    simp only [shapeOf] at h
    have leaf : ∀ dd k, P.underlying t = some dd → dd.isRow = false → sh = [k] →
        (∀ (u v : Value) (c e : CV), V w N u c → V w N v e → shEq [k] [c] [e] = some r → (Op.equalIn (D + 1) t u v).run P w = .ok r w) →
        ∃ u v, (part t xs o).run P w = .ok u w ∧ (part t ys o).run P w = .ok v w ∧ (Op.equalIn (D + 1) t u v).run P w = .ok r w := by
      intro dd k hu hdd h1 hq
      subst h1
      simp only [List.length_singleton] at hc hd' hr
      have hxs : o < xs.size := by rw [hx.len]; omega
      have hys : o < ys.size := by rw [hy.len]; omega
      refine ⟨_, _, part_leaf hu hdd hxs, part_leaf hu hdd hys, ?_⟩
      rw [leaf_one hc, leaf_one hd'] at hr
      exact hq _ _ _ _ (hx.get o hxs (by omega)) (hy.get o hys (by omega)) hr
    split at h
    · rename_i hu
      refine leaf _ _ hu rfl (Option.some.inj h).symm fun u v c e hU hV hb => ?_
      cases c <;> cases e <;> simp only [shEq, Option.map_some, Bool.and_true] at hb <;> (try (cases hb; done))
      obtain rfl := Option.some.inj hb
      cases hU; cases hV
      exact run_equalIn_bool' w D t _ _ hu
    · rename_i k hu
      refine leaf _ _ hu rfl (Option.some.inj h).symm fun u v c e hU hV hb => ?_
      cases c <;> cases e <;> simp only [shEq, Option.map_some, Bool.and_true] at hb <;> (try (cases hb; done))
      split at hb
      · rename_i hk
        subst hk
        obtain rfl := Option.some.inj hb
        cases hU; cases hV
        exact run_equalIn_int w D t _ k _ _ hu
      · cases hb
    · rename_i hu
      refine leaf _ _ hu rfl (Option.some.inj h).symm fun u v c e hU hV hb => ?_
      cases c <;> cases e <;> simp only [shEq, Option.map_some, Bool.and_true] at hb <;> (try (cases hb; done))
      obtain rfl := Option.some.inj hb
      cases hU; cases hV
      exact run_equalIn_string w D t _ _ hu
    · rename_i fs hu
      split at h
      · cases h
      · rename_i hst
        have hst : P.stoodInHeld t = false := by simpa using hst
        obtain ⟨i, hi⟩ := info_of_underlying hu
        refine ⟨_, _, part_row hu rfl hi, part_row hu rfl hi, ?_⟩
        have hf : P.fieldsOf t = fs := by simp [Program.fieldsOf, hu]
        rw [run_equalIn_struct w D t _ _ (by rw [hf]; exact hu) hst, hf]
        rw [← hsz]
        refine eqFields_run (d := d) (by omega) (hx.extract o sh.length hc) (hy.extract o sh.length hd') (fun t sh h1 h2 => ih t sh h1 h2) fs.toList 0 sh h r (by simp; omega) (by simp; omega) ?_
        simpa [List.take_take] using hr
    · rename_i n e hu
      split at h
      · rename_i l hl
        split at h
        · rename_i hle
          obtain rfl := Option.some.inj h
          obtain ⟨i, hi⟩ := info_of_underlying hu
          refine ⟨_, _, part_row hu rfl hi, part_row hu rfl hi, ?_⟩
          obtain ⟨i', hi'⟩ := shape_info hl
          rw [run_equalIn_array w D _ _ hu hi', ← hsz, List.range_eq_range']
          rw [repShape_length] at hc hd' hr ⊢
          refine eqItems_run (d := d) (by omega) hle (ih e l hl hle) (hx.extract o _ hc) (hy.extract o _ hd') n 0 r (by simp; omega) (by simp; omega) ?_
          simpa [List.take_take] using hr
        · cases h
      · cases h
    · cases h
end
end Go.Pl
/-
  EACH OPERATION, GOES ON: numbers, parts, addresses, literals. My own work.
-/
namespace Go.Pl
open Go
set_option linter.unusedVariables false
section
variable {O : Nat → Prop} {A0 : Lent} {w0 w : World} {β : Bt} {s : PS} {a : Act} {P : Program}
theorem ok_un {o : Oper} {op : UnOp} {t : TypeId} {x : Operand} {y : PO} (ho : o.op = .unOp op t x) (h : Sim O w0 A0 β s (tmf a) w) (hd : dstOk o.dst a.tmps.size) (hc : chkPO x y = true) {s' : PS}
    (hs : pstep o.dst s (.un op y) = some s') : Does P o O A0 w0 a w s' := by
  simp only [pstep] at hs
  split at hs
  · rename_i c hy
    have hV := evc_V h hc hy
    cases hu : unC op c with
    | none => rw [hu] at hs; cases hs
    | some r =>
      rw [hu] at hs
      obtain rfl := Option.some.inj hs
      unfold unC at hu
      split at hu
      · obtain rfl := Option.some.inj hu
        refine Does.val h hd (v := .bool _) ?_ (V.bool _)
        unfold execOp
        simp only [ho, V.bool_inv hV, Op.unary, Sem.run_bind, Sem.run_pure, Result.andThen_ok]
      · obtain rfl := Option.some.inj hu
        refine Does.val h hd (v := .int _ _) ?_ (V.int _ _)
        unfold execOp
        simp only [ho, V.int_inv hV, Op.unary, Op.intArith, Sem.run_bind, Sem.run_pure, Result.andThen_ok]
      · cases hu
  · cases hs
theorem run_binOp {op : BinOp} {t : TypeId} {u v : Value} {x y z : CV} {N : Nat → Prop} (hx : V w N u x) (hy : V w N v y) (hb : binC op x y = some z)
    (px py : Operand) : ∃ r, (do eqGuard op t px py u v; binOp op t u v : Sem Value).run P w = .ok r w ∧ V w N r z := by
  unfold binC at hb
  split at hb
  · rename_i k a k' b
    unfold shl at hb
    split at hb
    · rename_i hc
      obtain rfl := Option.some.inj hb
      refine ⟨_, ?_, V.int _ _⟩
      simp only [V.int_inv hx, V.int_inv hy, eqGuard, binOp, Op.shift, Sem.run_bind]
      simp [show ¬ b < 0 by omega, Nat.min_eq_left hc.2]
    · cases hb
  · rename_i k a k' b
    unfold shr at hb
    split at hb
    · rename_i hc
      obtain rfl := Option.some.inj hb
      refine ⟨_, ?_, V.int _ _⟩
      simp only [V.int_inv hx, V.int_inv hy, eqGuard, binOp, Op.shift, Sem.run_bind]
      simp [show ¬ b < 0 by omega, Nat.min_eq_left hc.2]
    · cases hb
  all_goals first
    | (rename_i k a k' b
       split at hb
       · rename_i hc
         obtain rfl := Option.some.inj hb
         first
           | (obtain rfl := hc
              refine ⟨_, ?_, V.int _ _⟩
              simp only [V.int_inv hx, V.int_inv hy, eqGuard, binOp, Op.intArith, Op.intBits, Sem.run_bind]
              simp
              done)
           | (obtain rfl := hc
              refine ⟨_, ?_, V.bool _⟩
              simp only [V.int_inv hx, V.int_inv hy, eqGuard, binOp, Op.intCmp, Sem.run_bind]
              simp [bne]
              done)
           | (obtain ⟨rfl, hc⟩ := hc
              refine ⟨_, ?_, V.int _ _⟩
              simp only [V.int_inv hx, V.int_inv hy, eqGuard, binOp, Op.intDiv, Sem.run_bind]
              simp [hc]
              done)
       · cases hb)
    | (obtain rfl := Option.some.inj hb
       refine ⟨_, ?_, V.bool _⟩
       simp only [V.str_inv hx, V.str_inv hy, eqGuard, binOp, Op.stringOp, Sem.run_bind]
       simp
       done)
    | (cases hb; done)
theorem ok_bin {o : Oper} {op : BinOp} {t t' : TypeId} {x y : Operand} {x' y' : PO} (ho : o.op = .binOp op t x y t') (h : Sim O w0 A0 β s (tmf a) w) (hd : dstOk o.dst a.tmps.size) (hx : chkPO x x' = true) (hy : chkPO y y' = true)
    {s' : PS} (hs : pstep o.dst s (.bin op x' y') = some s') : Does P o O A0 w0 a w s' := by
  simp only [pstep] at hs
  split at hs
  · rename_i u v hu hv
    cases hb : binC op u v with
    | none => rw [hb] at hs; cases hs
    | some z =>
      rw [hb] at hs
      obtain rfl := Option.some.inj hs
      obtain ⟨r, hr, hV⟩ := run_binOp (P := P) (t := t) (evc_V h hx hu) (evc_V h hy hv) hb x y
      refine Does.val h hd (v := r) ?_ hV
      unfold execOp
      simp only [ho, Sem.run_bind] at hr ⊢
      simp only [hr, Result.andThen_ok, Sem.run_pure]
  · cases hs
theorem shEq_length : ∀ {sh : List LK} {cs ds : List CV} {r : Bool}, shEq sh cs ds = some r → cs.length = sh.length ∧ ds.length = sh.length
  | [], [], [], _, _ => ⟨rfl, rfl⟩
  | [], [], _ :: _, _, h => by simp [shEq] at h
  | [], _ :: _, _, _, h => by simp [shEq] at h
  | _ :: _, [], _, _, h => by simp [shEq] at h
  | _ :: _, _ :: _, [], _, h => by simp [shEq] at h
  | k :: sh, p :: cs, q :: ds, r, h => by
    have step : ∀ {z : Bool}, (shEq sh cs ds).map (z && ·) = some r → (p :: cs).length = (k :: sh).length ∧ (q :: ds).length = (k :: sh).length := by
      intro z h
      cases hs : shEq sh cs ds with
      | none => rw [hs] at h; cases h
      | some u => have := shEq_length hs; simp [this.1, this.2]
    cases k <;> cases p <;> (try (simp [shEq] at h; done)) <;> cases q <;> (try (simp [shEq] at h; done)) <;> simp only [shEq] at h
    · split at h
      · exact step h
      · cases h
    · exact step h
    · exact step h
theorem run_eqs {ag : Bool} {sh : List LK} {t : TypeId} {N : Nat → Prop} {u v : Value} {x y : CV} {r : Bool} (hsh : shapeOf P 50 t = some sh) (hlen : sh.length = P.cellsOf t) (hg : P.eqGuardType P.depth t = false)
    (hag : (match P.underlying t with | some d => d.isRow | none => false) = ag) (hb : ag = false → sh = [.b])
    (hx : V w N u x) (hy : V w N v y) (hr : eqC ag sh x y = some r) (neq : Bool) (px py : Operand) :
    (do eqGuard (if neq then .neq else .eql) t px py u v; binOp (if neq then .neq else .eql) t u v : Sem Value).run P w = .ok (.bool (if neq then !r else r)) w := by
  have hE := eq_part (P := P) (w := w) (N := N) 50 t sh hsh hlen 10000 (by omega)
  cases ag with
  | true =>
    obtain ⟨cs, ds, rfl, rfl, hr⟩ : ∃ cs ds, x = .agg cs ∧ y = .agg ds ∧ shEq sh cs ds = some r := by
      cases x <;> (try (simp [eqC] at hr; done))
      cases y <;> (try (simp [eqC] at hr; done))
      exact ⟨_, _, rfl, rfl, hr⟩
    cases hx with
    | agg xs _ hl1 _ hV1 =>
    cases hy with
    | agg ys _ hl2 _ hV2 =>
    have hl := shEq_length hr
    obtain ⟨u', v', hu, hv, he⟩ := hE xs ys cs ds 0 r ⟨hl1, hV1⟩ ⟨hl2, hV2⟩ (by omega) (by omega) (by
      rw [List.drop_zero, List.drop_zero, List.take_of_length_le (by omega), List.take_of_length_le (by omega)]; exact hr)
    cases hut : P.underlying t with
    | none => rw [hut] at hag; cases hag
    | some dd =>
      rw [hut] at hag
      obtain ⟨i, hi⟩ := info_of_underlying hut
      rw [part_row hut hag hi] at hu hv
      have hcx : xs.extract 0 (0 + P.cellsOf t) = xs := by rw [← hlen]; apply Array.ext <;> simp; omega
      have hcy : ys.extract 0 (0 + P.cellsOf t) = ys := by rw [← hlen]; apply Array.ext <;> simp; omega
      rw [hcx] at hu
      rw [hcy] at hv
      cases hu
      cases hv
      cases neq
      · simp only [Bool.false_eq_true, if_false, Sem.run_bind, run_eqGuard_agg w _ t px py xs ys hg, Result.andThen_ok, run_eql_struct, he]
      · simp only [if_true, Sem.run_bind, run_eqGuard_agg w _ t px py xs ys hg, Result.andThen_ok, run_neq_struct, he]
  | false =>
    obtain rfl := hb rfl
    simp only [eqC] at hr
    cases x <;> (try (simp [shEq] at hr; done))
    cases y <;> (try (simp [shEq] at hr; done))
    rename_i p q
    simp only [shEq, Option.map_some, Bool.and_true] at hr
    obtain rfl := Option.some.inj hr
    obtain rfl := V.bool_inv hx
    obtain rfl := V.bool_inv hy
    have one : ∀ b : Bool, Reads w N #[.bool b] [.bool b] := fun b => by
      refine ⟨rfl, fun i h1 h2 => ?_⟩
      obtain rfl : i = 0 := by simp at h1; omega
      exact V.bool b
    obtain ⟨u', v', hu, hv, he⟩ := hE #[.bool p] #[.bool q] [.bool p] [.bool q] 0 (p == q) (one p) (one q) (by simp) (by simp) (by simp [shEq])
    cases hut : P.underlying t with
    | none => simp [shapeOf, hut] at hsh
    | some dd =>
      rw [hut] at hag
      rw [part_leaf hut hag (by simp)] at hu hv
      cases hu
      cases hv
      cases neq
      · simp only [Bool.false_eq_true, if_false, eqGuard, binOp, Sem.run_bind, Op.equal, Op.maxDepth]
        simp only [List.getElem_toArray, List.getElem_cons_zero] at he
        simp [he]
      · simp only [if_true, eqGuard, binOp, Sem.run_bind, Op.equal, Op.maxDepth]
        simp only [List.getElem_toArray, List.getElem_cons_zero] at he
        simp [he]
theorem ok_eqs {o : Oper} {t t' : TypeId} {x y : Operand} {x' y' : PO} {neq ag : Bool} {sh : List LK} (ho : o.op = .binOp (if neq then .neq else .eql) t x y t') (h : Sim O w0 A0 β s (tmf a) w) (hd : dstOk o.dst a.tmps.size)
    (hx : chkPO x x' = true) (hy : chkPO y y' = true) (hsh : shapeOf P 50 t = some sh) (hlen : sh.length = P.cellsOf t) (hg : P.eqGuardType P.depth t = false)
    (hag : (match P.underlying t with | some d => d.isRow | none => false) = ag) (hb : ag = false → sh = [.b]) {s' : PS} (hs : pstep o.dst s (.eqs neq ag sh x' y') = some s') : Does P o O A0 w0 a w s' := by
  simp only [pstep] at hs
  split at hs
  · rename_i u v hu hv
    cases hq : eqC ag sh u v with
    | none => rw [hq] at hs; cases hs
    | some r =>
      rw [hq] at hs
      obtain rfl := Option.some.inj hs
      have := run_eqs hsh hlen hg hag hb (evc_V h hx hu) (evc_V h hy hv) hq neq x y
      refine Does.val h hd (v := .bool (if neq then !r else r)) ?_ (V.bool _)
      unfold execOp
      simp only [ho, Sem.run_bind] at this ⊢
      simp only [this, Result.andThen_ok, Sem.run_pure]
  · cases hs
theorem ok_conv {o : Oper} {src dst : TypeId} {x : Operand} {y : PO} {k k0 : IntKind} (ho : o.op = .convert src dst x) (h : Sim O w0 A0 β s (tmf a) w) (hd : dstOk o.dst a.tmps.size) (hc : chkPO x y = true)
    (hu0 : P.underlying src = some (.int k0)) (hu : P.underlying dst = some (.int k)) {s' : PS} (hs : pstep o.dst s (.conv k y) = some s') : Does P o O A0 w0 a w s' := by
  simp only [pstep] at hs
  split at hs
  · rename_i k' n hy
    obtain rfl := Option.some.inj hs
    have hV := evc_V h hc hy
    refine Does.val h hd (v := .int k (k.wrap n)) ?_ (V.int _ _)
    unfold execOp
    simp only [ho, V.int_inv hV, convert, Sem.run_bind, run_underlying hu0, run_underlying hu, Result.andThen_ok, Conv.intToInt, Sem.run_pure]
  · cases hs
end
end Go.Pl
/-
  EACH OPERATION, GOES ON: addresses, parts, tuples, lengths. My own work.
-/
namespace Go.Pl
open Go
set_option linter.unusedVariables false
section
variable {O : Nat → Prop} {A0 : Lent} {w0 w : World} {β : Bt} {s : PS} {a : Act} {P : Program}
theorem moved (h : Sim O w0 A0 β s (tmf a) w) {v : Value} {pv pv' : PV} {k : Nat} (hR : R w (Nn O β s.bx) β s.bx v pv)
    (hp : (∃ cs, pv = .rp cs ∧ k ≤ cs.length ∧ pv' = .rp (cs.drop k)) ∨ (∃ d e o st, pv = .ptr d e o ∧ (s.bx d = ⟨e, st⟩ ∧ st.isv = true) ∧ pv' = .ptr d e (o + k)) ∨
      (∃ d e i o sz es, pv = .sp d e i o ∧ s.bx d = ⟨e, .sl sz es⟩ ∧ pv' = .sp d e i (o + k))) :
    ∃ b off, v = .pointer (some ⟨b, off, none⟩) ∧ R w (Nn O β s.bx) β s.bx (.pointer (some ⟨b, off + k, none⟩)) pv' := by
  rcases hp with ⟨cs, rfl, hk, rfl⟩ | ⟨d, e, o, cs, rfl, ⟨hb, hst⟩, rfl⟩ | ⟨d, e, i, o, sz, es, rfl, hb, rfl⟩
  · obtain ⟨b, off, he, hb, hN, hcs⟩ := hR
    exact ⟨b, off, he, b, off + k, rfl, hb, hN, hcs.drop k⟩
  · obtain ⟨b, base, hβ, he⟩ := hR.2 (by rw [hb]) (by rw [hb]; exact hst)
    refine ⟨b, _, he, ⟨hR.1.1, rfl⟩, fun hv hs => ⟨b, base, hβ, by rw [Nat.add_assoc]⟩⟩
  · obtain ⟨b, hβ, he⟩ := hR.2 (by rw [hb]) sz es (by rw [hb])
    refine ⟨b, _, he, hR.1, fun hv sz' es' hs => ?_⟩
    rw [hb] at hs
    cases hs
    exact ⟨b, hβ, by rw [Nat.add_assoc]⟩
theorem ok_fad {o : Oper} {t : TypeId} {x : Operand} {y : PO} {f k : Nat} {fs : Array Field} {fd : Field} {i : TypeInfo} (ho : o.op = .fieldAddr t x f) (h : Sim O w0 A0 β s (tmf a) w) (hd : dstOk o.dst a.tmps.size) (hc : chkPO x y = true)
    (hu : P.underlying t = some (.struct fs)) (hf : fs[f]? = some fd) (hk : fd.offset = k) (hi : P.info? fd.type = some i) (hi0 : i.size ≠ 0) {s' : PS} (hs : pstep o.dst s (.fad k y) = some s') : Does P o O A0 w0 a w s' := by
  have hR := ev_R h hc
  have key : ∀ pv', ((∃ cs, s.ev y = .rp cs ∧ k ≤ cs.length ∧ pv' = .rp (cs.drop k)) ∨ (∃ d e o st, s.ev y = .ptr d e o ∧ (s.bx d = ⟨e, st⟩ ∧ st.isv = true) ∧ pv' = .ptr d e (o + k)) ∨
      (∃ d e i o sz es, s.ev y = .sp d e i o ∧ s.bx d = ⟨e, .sl sz es⟩ ∧ pv' = .sp d e i (o + k))) → s' = s.putO o.dst pv' → Does P o O A0 w0 a w s' := by
    rintro pv' hp rfl
    obtain ⟨b, off, he, hR'⟩ := moved h hR hp
    refine Does.val h hd (v := .pointer (some ⟨b, off + k, none⟩)) ?_ hR'
    unfold execOp
    simp only [ho, he, Instr.fieldAt, Instr.sureAddr, fieldPlace, sizeOf, typeInfo, program, Sem.run_bind, Sem.run, run_underlying hu, hf, hi, hi0, if_false, Result.andThen_ok, Sem.run_pure, hk, Addr.add_mid]
  simp only [pstep] at hs
  split at hs
  · rename_i cs hy
    split at hs
    · exact key _ (.inl ⟨cs, hy, ‹_›, rfl⟩) (Option.some.inj hs).symm
    · cases hs
  · rename_i d v o' hy
    split at hs
    · rename_i u cs hb
      split at hs
      · rename_i hv
        subst hv
        exact key _ (.inr (.inl ⟨d, u, o', _, hy, ⟨hb, rfl⟩, rfl⟩)) (Option.some.inj hs).symm
      · cases hs
    · rename_i u cs hb
      split at hs
      · rename_i hv
        subst hv
        exact key _ (.inr (.inl ⟨d, u, o', _, hy, ⟨hb, rfl⟩, rfl⟩)) (Option.some.inj hs).symm
      · cases hs
    · cases hs
  · rename_i d v j o' hy
    split at hs
    · rename_i u sz es hb
      split at hs
      · rename_i hv
        subst hv
        exact key _ (.inr (.inr ⟨d, u, j, o', sz, es, hy, hb, rfl⟩)) (Option.some.inj hs).symm
      · cases hs
    · cases hs
  · cases hs
theorem ok_iaA {o : Oper} {t e : TypeId} {x ix : Operand} {y iy : PO} {len sz : Nat} {i : TypeInfo} (ho : o.op = .indexAddr t x ix) (h : Sim O w0 A0 β s (tmf a) w) (hd : dstOk o.dst a.tmps.size) (hc : chkPO x y = true) (hci : chkPO ix iy = true)
    (hu : P.underlying t = some (.array len e)) (hi : P.info? e = some i) (hsz : i.size = sz) {s' : PS} (hs : pstep o.dst s (.iaA len sz y iy) = some s') : Does P o O A0 w0 a w s' := by
  have hR := ev_R h hc
  simp only [pstep] at hs
  split at hs
  · rename_i k n hn
    have hV := V.int_inv (evc_V h hci hn)
    split at hs
    · rename_i hr
      have key : ∀ pv', ((∃ cs, s.ev y = .rp cs ∧ n.toNat * sz ≤ cs.length ∧ pv' = .rp (cs.drop (n.toNat * sz))) ∨ (∃ d e o st, s.ev y = .ptr d e o ∧ (s.bx d = ⟨e, st⟩ ∧ st.isv = true) ∧ pv' = .ptr d e (o + n.toNat * sz)) ∨
          (∃ d e i o sz' es, s.ev y = .sp d e i o ∧ s.bx d = ⟨e, .sl sz' es⟩ ∧ pv' = .sp d e i (o + n.toNat * sz))) → s' = s.putO o.dst pv' → Does P o O A0 w0 a w s' := by
        rintro pv' hp rfl
        obtain ⟨b, off, he, hR'⟩ := moved h hR hp
        refine Does.val h hd (v := .pointer (some ⟨b, off + n.toNat * sz, none⟩)) ?_ hR'
        unfold execOp
        simp only [ho, he, hV, Instr.indexAt, Instr.sureAddr, asIntOf, sizeOf, typeInfo, program, Sem.run_bind, Sem.run, run_underlying hu, hi, hsz, Result.andThen_ok, Sem.run_pure, Sem.run_ite, if_pos hr, Addr.add_mid]
      split at hs
      · rename_i cs hy
        split at hs
        · exact key _ (.inl ⟨cs, hy, ‹_›, rfl⟩) (Option.some.inj hs).symm
        · cases hs
      · rename_i d v o' hy
        split at hs
        · rename_i u cs hb
          split at hs
          · rename_i hv
            subst hv
            exact key _ (.inr (.inl ⟨d, u, o', _, hy, ⟨hb, rfl⟩, rfl⟩)) (Option.some.inj hs).symm
          · cases hs
        · rename_i u cs hb
          split at hs
          · rename_i hv
            subst hv
            exact key _ (.inr (.inl ⟨d, u, o', _, hy, ⟨hb, rfl⟩, rfl⟩)) (Option.some.inj hs).symm
          · cases hs
        · cases hs
      · rename_i d v j o' hy
        split at hs
        · rename_i u sz' es hb
          split at hs
          · rename_i hv
            subst hv
            exact key _ (.inr (.inr ⟨d, u, j, o', sz', es, hy, hb, rfl⟩)) (Option.some.inj hs).symm
          · cases hs
        · cases hs
      · cases hs
    · cases hs
  · cases hs
theorem ok_iaS {o : Oper} {t e : TypeId} {x ix : Operand} {y iy : PO} {sz : Nat} {i : TypeInfo} (ho : o.op = .indexAddr t x ix) (h : Sim O w0 A0 β s (tmf a) w) (hd : dstOk o.dst a.tmps.size) (hc : chkPO x y = true) (hci : chkPO ix iy = true)
    (hu : P.underlying t = some (.slice e)) (hi : P.info? e = some i) (hsz : i.size = sz) {s' : PS} (hs : pstep o.dst s (.iaS sz y iy) = some s') : Does P o O A0 w0 a w s' := by
  have hR := ev_R h hc
  simp only [pstep] at hs
  split at hs
  · rename_i k n hn
    have hV := V.int_inv (evc_V h hci hn)
    have run : ∀ b off len cap, a.eval x = .slice (some ⟨b, off, none⟩) len cap → 0 ≤ n ∧ n < (len : Int) → (execOp a.eval o).run P w = .ok (.value (.pointer (some ⟨b, off + n.toNat * sz, none⟩))) w := by
      intro b off len cap he hr
      unfold execOp
      simp only [ho, he, hV, Instr.indexAt, asIntOf, sizeOf, typeInfo, program, Sem.run_bind, Sem.run, run_underlying hu, hi, hsz, Result.andThen_ok, Sem.run_pure, Sem.run_ite, if_pos hr, Addr.add_mid]
    split at hs
    · rename_i es hy
      rw [hy] at hR
      split at hs
      · rename_i hr
        split at hs
        · rename_i hlen
          obtain rfl := Option.some.inj hs
          have hlt : n.toNat < es.length := by omega
          have hget : es.getD n.toNat [] = es[n.toNat] := by simp [List.getD, hlt]
          rw [hget] at hlen ⊢
          generalize hvx : a.eval x = vx at hR
          cases hR with
          | nil => simp at hlt
          | emp _ _ => simp at hlt
          | sl b off cap sz' _ c hb hN hz hcap h1 hread hVV =>
            have : sz' = sz := by rw [← hz _ (List.getElem_mem hlt)]; exact hlen
            subst this
            refine Does.val h hd (run b off es.length cap hvx hr) ⟨b, off + n.toNat * sz', rfl, hb, hN, h1 _ (List.getElem_mem hlt), fun j hj => ?_⟩
            exact ⟨c n.toNat j, by rw [Nat.add_assoc]; exact hread _ _ hlt hj, hVV _ _ hlt hj⟩
        · cases hs
      · cases hs
    · rename_i d v off len hy
      rw [hy] at hR
      split at hs
      · rename_i u sz' es hb
        split at hs
        · rename_i hcond
          obtain ⟨rfl, rfl, hr⟩ := hcond
          obtain rfl := Option.some.inj hs
          obtain ⟨rfl, hor⟩ := hR.2 (by rw [hb]) sz' es (by rw [hb])
          rcases hor with ⟨_, _, rfl⟩ | ⟨b, cap, hβ, he, _, _⟩
          · exact absurd hr.2 (by omega)
          · refine Does.val h hd (run b 0 len cap he hr) ⟨by rw [hb]; exact Nat.le_refl _, fun _ sz2 es2 hs2 => ⟨b, hβ, ?_⟩⟩
            rw [hb] at hs2
            cases hs2
            simp
        · cases hs
      · cases hs
    · cases hs
  · cases hs
theorem part_V {t : TypeId} {d : TypeDesc} {i : TypeInfo} {N : Nat → Prop} {vs : Array Value} {cs : List CV} {off n : Nat} {f : Bool} (hu : P.underlying t = some d) (hi : P.info? t = some i) (hn : i.size = n) (hf : d.isRow = f) (h1 : f = false → n = 1)
    (hV : V w N (.agg vs) (.agg cs)) (hl : off + n ≤ cs.length) : ∃ v, (part t vs off).run P w = .ok v w ∧ V w N v (rdc f n (cs.drop off)) := by
  cases hV with
  | agg _ _ hlen ho hV =>
  have hct : P.cellsOf t = n := by simp [Program.cellsOf, hi, hn]
  cases f with
  | true =>
    refine ⟨_, part_row hu hf hi, ?_⟩
    rw [hct]
    simp only [rdc, if_true]
    refine .agg _ _ (by simp; omega) (fun c hc => ho c (List.mem_of_mem_drop (List.mem_of_mem_take hc))) fun j h1 h2 => ?_
    have := hV (off + j) (by simp at h1 h2; omega) (by simp at h2; omega)
    simpa using this
  | false =>
    have hn1 := h1 rfl
    have hlt : off < vs.size := by omega
    refine ⟨_, part_leaf hu hf hlt, ?_⟩
    have : rdc false n (cs.drop off) = cs[off]'(by omega) := by
      simp only [rdc, Bool.false_eq_true, if_false]
      rw [List.drop_eq_getElem_cons (by omega)]
      rfl
    rw [this]
    exact hV off hlt (by omega)
theorem V.agg_inv {N : Nat → Prop} {v : Value} {cs : List CV} (h : V w N v (.agg cs)) : ∃ vs, v = .agg vs := by cases h; exact ⟨_, rfl⟩
theorem ok_fld {o : Oper} {t : TypeId} {x : Operand} {y : PO} {f k n : Nat} {ag : Bool} {fs : Array Field} {fd : Field} {i : TypeInfo} {d : TypeDesc} (ho : o.op = .field t x f) (h : Sim O w0 A0 β s (tmf a) w) (hd : dstOk o.dst a.tmps.size) (hc : chkPO x y = true)
    (hu : P.underlying t = some (.struct fs)) (hf : fs[f]? = some fd) (hk : fd.offset = k) (hi : P.info? fd.type = some i) (hn : i.size = n) (hud : P.underlying fd.type = some d) (hag : d.isRow = ag) (h1 : ag = false → n = 1)
    {s' : PS} (hs : pstep o.dst s (.fld ag k n y) = some s') : Does P o O A0 w0 a w s' := by
  simp only [pstep] at hs
  split at hs
  · rename_i cs hy
    split at hs
    · rename_i hl
      obtain rfl := Option.some.inj hs
      have hV := evc_V h hc hy
      obtain ⟨vs, hvs⟩ := V.agg_inv hV
      rw [hvs] at hV
      obtain ⟨v, hr, hVr⟩ := part_V (P := P) hud hi hn hag h1 hV hl
      refine Does.val h hd (v := v) ?_ hVr
      unfold execOp
      simp only [ho, hvs, Instr.field, asAgg, Sem.run_bind, run_underlying hu, hf, hk, Result.andThen_ok, Sem.run_pure, hr]
    · cases hs
  · cases hs
theorem ok_idA {o : Oper} {t e : TypeId} {x ix : Operand} {y iy : PO} {len sz : Nat} {ag : Bool} {i : TypeInfo} {d : TypeDesc} (ho : o.op = .index t x ix) (h : Sim O w0 A0 β s (tmf a) w) (hd : dstOk o.dst a.tmps.size) (hc : chkPO x y = true) (hci : chkPO ix iy = true)
    (hu : P.underlying t = some (.array len e)) (hi : P.info? e = some i) (hsz : i.size = sz) (hud : P.underlying e = some d) (hag : d.isRow = ag) (h1 : ag = false → sz = 1)
    {s' : PS} (hs : pstep o.dst s (.idA ag len sz y iy) = some s') : Does P o O A0 w0 a w s' := by
  simp only [pstep] at hs
  split at hs
  · rename_i k n cs hn hy
    split at hs
    · rename_i hr
      obtain rfl := Option.some.inj hs
      have hV := evc_V h hc hy
      have hVi := V.int_inv (evc_V h hci hn)
      obtain ⟨vs, hvs⟩ := V.agg_inv hV
      rw [hvs] at hV
      have hl : n.toNat * sz + sz ≤ cs.length := by
        have : (n.toNat + 1) * sz ≤ len * sz := Nat.mul_le_mul_right _ (by omega)
        rw [Nat.add_mul, Nat.one_mul] at this
        omega
      obtain ⟨v, hr', hVr⟩ := part_V (P := P) hud hi hsz hag h1 hV hl
      refine Does.val h hd (v := v) ?_ hVr
      unfold execOp
      simp only [ho, hvs, hVi, Instr.index, asIntOf, sizeOf, typeInfo, program, Sem.run_bind, Sem.run, run_underlying hu, hi, hsz, Result.andThen_ok, Sem.run_pure, Sem.run_ite, if_pos (show 0 ≤ n ∧ n < (len : Int) from ⟨hr.1, hr.2.1⟩), hr']
    · cases hs
  · cases hs
theorem ok_idS {o : Oper} {t : TypeId} {x ix : Operand} {y iy : PO} (ho : o.op = .index t x ix) (h : Sim O w0 A0 β s (tmf a) w) (hd : dstOk o.dst a.tmps.size) (hc : chkPO x y = true) (hci : chkPO ix iy = true)
    (hu : P.underlying t = some .string) {s' : PS} (hs : pstep o.dst s (.idS y iy) = some s') : Does P o O A0 w0 a w s' := by
  simp only [pstep] at hs
  split at hs
  · rename_i k n b hn hy
    have hV := V.str_inv (evc_V h hc hy)
    have hVi := V.int_inv (evc_V h hci hn)
    split at hs
    · rename_i h0
      split at hs
      · rename_i c hcc
        obtain rfl := Option.some.inj hs
        refine Does.val h hd (v := .int .u8 c.toNat) ?_ (V.int _ _)
        unfold execOp
        simp only [ho, hV, hVi, Instr.index, asIntOf, Sem.run_bind, run_underlying hu, Result.andThen_ok, Sem.run_pure, if_pos h0, hcc]
      · cases hs
    · cases hs
  · cases hs
theorem ok_ext {o : Oper} {x : Operand} {y : PO} {j : Nat} (ho : o.op = .extract x j) (h : Sim O w0 A0 β s (tmf a) w) (hd : dstOk o.dst a.tmps.size) (hc : chkPO x y = true)
    {s' : PS} (hs : pstep o.dst s (.ext y j) = some s') : Does P o O A0 w0 a w s' := by
  simp only [pstep] at hs
  split at hs
  · rename_i vs hy
    split at hs
    · rename_i c hj
      obtain rfl := Option.some.inj hs
      have hV := evc_V h hc hy
      generalize hvx : a.eval x = vx at hV
      cases hV with
      | tup us _ hl hV =>
      obtain ⟨hj', rfl⟩ := List.getElem?_eq_some_iff.1 hj
      refine Does.val h hd (v := us[j]'(by omega)) ?_ (hV j (by omega) hj')
      unfold execOp
      simp only [ho, hvx, Instr.extract, Sem.run_bind]
      simp [show j < us.size by omega]
    · cases hs
  · cases hs
theorem ok_len {o : Oper} {c : Call} {t e : TypeId} {x : Operand} {y : PO} (ho : o.op = .call c) (hcal : c.callee = .builtin .len) (hargs : c.args = #[x]) (hty : c.argTypes[0]? = some t) (h : Sim O w0 A0 β s (tmf a) w) (hd : dstOk o.dst a.tmps.size) (hc : chkPO x y = true)
    (hu : P.underlying t = some (.slice e)) {s' : PS} (hs : pstep o.dst s (.len y) = some s') : Does P o O A0 w0 a w s' := by
  have hR := ev_R h hc
  have runS : ∀ b len cap, a.eval x = .slice b len cap → (execOp a.eval o).run P w = .ok (.value (goInt len)) w := by
    intro b len cap he
    unfold execOp
    simp [ho, hcal, hargs, he, resolve, invoke, builtin, Builtin.len_, hty, Sem.run_bind, run_underlying hu]
  simp only [pstep] at hs
  split at hs
  · rename_i es hy
    obtain rfl := Option.some.inj hs
    rw [hy] at hR
    generalize hvx : a.eval x = vx at hR
    cases hR with
    | nil => exact Does.val h hd (runS none 0 0 hvx) (V.int _ _)
    | emp b cap => exact Does.val h hd (runS (some b) 0 cap hvx) (V.int _ _)
    | sl b off cap sz' _ c hb hN hz hcap h1 hread hVV => exact Does.val h hd (runS _ es.length cap hvx) (V.int _ _)
  · rename_i d v off len hy
    rw [hy] at hR
    split at hs
    · rename_i u sz es hb
      split at hs
      · rename_i hv
        subst hv
        obtain rfl := Option.some.inj hs
        obtain ⟨_, hor⟩ := hR.2 (by rw [hb]) sz es (by rw [hb])
        rcases hor with ⟨_, he, rfl⟩ | ⟨b, cap, _, he, _, _⟩
        · exact Does.val h hd (runS none 0 0 he) (V.int _ _)
        · exact Does.val h hd (runS _ len cap he) (V.int _ _)
      · cases hs
    · cases hs
  · cases hs
theorem ok_lenS {o : Oper} {c : Call} {t : TypeId} {x : Operand} {y : PO} (ho : o.op = .call c) (hcal : c.callee = .builtin .len) (hargs : c.args = #[x]) (hty : c.argTypes[0]? = some t) (h : Sim O w0 A0 β s (tmf a) w) (hd : dstOk o.dst a.tmps.size) (hc : chkPO x y = true)
    (hu : P.underlying t = some .string) {s' : PS} (hs : pstep o.dst s (.lenS y) = some s') : Does P o O A0 w0 a w s' := by
  simp only [pstep] at hs
  split at hs
  · rename_i b hy
    obtain rfl := Option.some.inj hs
    have hV := V.str_inv (evc_V h hc hy)
    refine Does.val h hd (v := goInt b.size) ?_ (V.int _ _)
    unfold execOp
    simp [ho, hcal, hargs, hV, resolve, invoke, builtin, Builtin.len_, hty, Sem.run_bind, run_underlying hu]
  · cases hs
end
end Go.Pl

/-
  WHAT A PLAIN STATE SAYS OF A FRAME AND A WORLD: closed values read in memory that nobody writes; boxes are blocks of the frame's own. My own work.
-/
import Derived.Test.YtcmejdkjfekoeaaPlDef
import Derived.Laws.Cells
import Derived.Laws.CopyRow
import Derived.Laws.Entries
import Derived.Deep.MidRow
namespace Go.Pl

def CV.one : CV → Bool
  | .agg _ | .tup _ => false
  | _ => true

/-- 'v' reads as 'c' in memory outside of 'N' (what some frame may still write). -/
inductive V (w : World) (N : Nat → Prop) : Value → CV → Prop where
  | int (k : IntKind) (n : Int) : V w N (.int k n) (.int k n)
  | bool (b : Bool) : V w N (.bool b) (.bool b)
  | str (s : ByteArray) : V w N (.string s) (.str s)
  | nilp : V w N (.pointer none) .nilp
  | nili : V w N .nilIface .nili
  | nilf : V w N .nilFunc .nilf
  | iface (t : TypeId) (v : Value) (c : CV) (h : V w N v c) : V w N (.iface t v) (.iface t c)
  | agg (vs : Array Value) (cs : List CV) (hl : vs.size = cs.length) (h1 : ∀ c ∈ cs, c.one = true)
      (h : ∀ (i : Nat) (h1 : i < vs.size) (h2 : i < cs.length), V w N vs[i] cs[i]) : V w N (.agg vs) (.agg cs)
  | tup (vs : Array Value) (cs : List CV) (hl : vs.size = cs.length)
      (h : ∀ (i : Nat) (h1 : i < vs.size) (h2 : i < cs.length), V w N vs[i] cs[i]) : V w N (.tuple vs) (.tup cs)
  | fn (f : Fn) (vs : Array Value) (cs : List CV) (hl : vs.size = cs.length)
      (h : ∀ (i : Nat) (h1 : i < vs.size) (h2 : i < cs.length), V w N vs[i] cs[i]) : V w N (.func f #[] vs) (.fn f cs)
  | clo (f : FuncId) (b : Nat) (v : Value) (c : CV) (hb : b < w.heap.size) (hN : ¬ N b) (hr : w.cell? ⟨b, 0, none⟩ = some v) (h : V w N v c) : V w N (.func (.func f) #[] #[.pointer (some ⟨b, 0, none⟩)]) (.clo f c)
  | nil : V w N (.slice none 0 0) (.sl [])
  | emp (a : Addr) (cap : Nat) : V w N (.slice (some a) 0 cap) (.sl [])
  | sl (b off cap sz : Nat) (es : List (List CV)) (c : Nat → Nat → Value) (hb : b < w.heap.size) (hN : ¬ N b) (hz : ∀ e ∈ es, e.length = sz) (hc : es.length ≤ cap)
      (h1 : ∀ e ∈ es, ∀ c ∈ e, c.one = true)
      (hr : ∀ (i j : Nat) (hi : i < es.length) (_ : j < es[i].length), w.cell? ⟨b, off + (i * sz + j), none⟩ = some (c i j))
      (h : ∀ (i j : Nat) (hi : i < es.length) (hj : j < es[i].length), V w N (c i j) es[i][j]) : V w N (.slice (some ⟨b, off, none⟩) es.length cap) (.sl es)

theorem V.oneCell {w : World} {N : Nat → Prop} {v : Value} {c : CV} (h : V w N v c) (h1 : c.one = true) : v.oneCell' = true := by
  cases h <;> first | rfl | (simp [CV.one] at h1)

structure Ext (w : World) (N : Nat → Prop) (w' : World) (N' : Nat → Prop) : Prop where
  size : w.heap.size ≤ w'.heap.size
  keep : ∀ b, b < w.heap.size → ¬ N b → w'.heap[b]? = w.heap[b]?
  less : ∀ b, b < w.heap.size → N' b → N b

theorem Ext.refl (w : World) (N : Nat → Prop) : Ext w N w N := ⟨Nat.le_refl _, fun _ _ _ => rfl, fun _ _ h => h⟩
theorem Ext.of_less {w : World} {N N' : Nat → Prop} (h : ∀ b, N' b → N b) : Ext w N w N' := ⟨Nat.le_refl _, fun _ _ _ => rfl, fun b _ => h b⟩

theorem Ext.cell {w w' : World} {N N' : Nat → Prop} (e : Ext w N w' N') {b o : Nat} (hb : b < w.heap.size) (hN : ¬ N b) : w'.cell? ⟨b, o, none⟩ = w.cell? ⟨b, o, none⟩ := by
  simp only [World.cell?, e.keep b hb hN]

theorem V.ext {w w' : World} {N N' : Nat → Prop} (e : Ext w N w' N') {v : Value} {c : CV} (h : V w N v c) : V w' N' v c := by
  induction h with
  | int k n => exact .int k n
  | bool b => exact .bool b
  | str s => exact .str s
  | nilp => exact .nilp
  | nili => exact .nili
  | nilf => exact .nilf
  | iface t v c _ ih => exact .iface t v c ih
  | agg vs cs hl h1 _ ih => exact .agg vs cs hl h1 ih
  | tup vs cs hl _ ih => exact .tup vs cs hl ih
  | fn f vs cs hl _ ih => exact .fn f vs cs hl ih
  | clo f b v c hb hN hr _ ih => exact .clo f b v c (Nat.lt_of_lt_of_le hb e.size) (fun h => hN (e.less b hb h)) (by rw [e.cell hb hN]; exact hr) ih
  | nil => exact .nil
  | emp a cap => exact .emp a cap
  | sl b off cap sz es c hb hN hz hc h1 hr _ ih =>
    exact .sl b off cap sz es c (Nat.lt_of_lt_of_le hb e.size) (fun h => hN (e.less b hb h)) hz hc h1 (fun i j hi hj => by rw [e.cell hb hN]; exact hr i j hi hj) ih

def BSt.owned : BSt → Bool
  | .var _ | .sl _ _ => true
  | _ => false

abbrev Bt := Nat → Option (Nat × Nat)

/-- what some frame may still write: the blocks of others, and those of this one -/
def Nn (O : Nat → Prop) (β : Bt) (bx : Nat → Box) (b : Nat) : Prop := O b ∨ ∃ d base, (bx d).st.owned = true ∧ β d = some (b, base)

def CellsAt (w : World) (N : Nat → Prop) (b off : Nat) (cs : List CV) : Prop :=
  (∀ c ∈ cs, c.one = true) ∧ ∀ (j : Nat) (hj : j < cs.length), ∃ v, w.cell? ⟨b, off + j, none⟩ = some v ∧ V w N v cs[j]

theorem CellsAt.ext {w w' : World} {N N' : Nat → Prop} {b off : Nat} {cs : List CV} (e : Ext w N w' N') (hc : w'.heap[b]? = w.heap[b]?) (h : CellsAt w N b off cs) : CellsAt w' N' b off cs :=
  ⟨h.1, fun j hj => by
    obtain ⟨v, hv, hV⟩ := h.2 j hj
    exact ⟨v, by simp only [World.cell?, hc] at hv ⊢; exact hv, hV.ext e⟩⟩

/-- a block of the frame's own -/
def OwnB (w : World) (b n : Nat) : Prop := ∃ arr el, w.heap[b]? = some (.cells arr el (0, 0)) ∧ n ≤ arr.size

def BR (w : World) (N : Nat → Prop) (p : Option (Nat × Nat)) : BSt → Prop
  | .var cs => ∃ b base, p = some (b, base) ∧ OwnB w b (base + cs.length) ∧ CellsAt w N b base cs
  | .vfz cs => ∃ b base, p = some (b, base) ∧ b < w.heap.size ∧ ¬ N b ∧ CellsAt w N b base cs
  | .sl sz es => (∀ e ∈ es, e.length = sz) ∧ ((p = none ∧ es = []) ∨ ∃ b, p = some (b, 0) ∧ OwnB w b (es.length * sz) ∧ ∀ (i : Nat) (hi : i < es.length), CellsAt w N b (i * sz) es[i])
  | .dead => True

def R (w : World) (N : Nat → Prop) (β : Bt) (bx : Nat → Box) (v : Value) : PV → Prop
  | .c c => V w N v c
  | .ptr d ver off => ver ≤ (bx d).ver ∧ (ver = (bx d).ver → ∀ cs, ((bx d).st = .var cs ∨ (bx d).st = .vfz cs) → ∃ b base, β d = some (b, base) ∧ v = .pointer (some ⟨b, base + off, none⟩))
  | .rp cs => ∃ b off, v = .pointer (some ⟨b, off, none⟩) ∧ b < w.heap.size ∧ ¬ N b ∧ CellsAt w N b off cs
  | .osl d ver off len => ver ≤ (bx d).ver ∧ (ver = (bx d).ver → ∀ sz es, (bx d).st = .sl sz es → off = 0 ∧
      ((β d = none ∧ v = .slice none 0 0 ∧ len = 0) ∨ ∃ b cap, β d = some (b, 0) ∧ v = .slice (some ⟨b, 0, none⟩) len cap ∧ len ≤ cap ∧ OwnB w b (cap * sz)))
  | .sp d ver i off => ver ≤ (bx d).ver ∧ (ver = (bx d).ver → ∀ sz es, (bx d).st = .sl sz es → ∃ b, β d = some (b, 0) ∧ v = .pointer (some ⟨b, i * sz + off, none⟩))
  | .undef => v = Go.undef
  | .junk => True

structure Sim (O : Nat → Prop) (w0 : World) (A0 : Nat → Prop) (β : Bt) (s : PS) (tm : Nat → Value) (w : World) : Prop where
  os : w.os = w0.os
  tape : w.tape = w0.tape
  output : w.output = w0.output
  size : w0.heap.size ≤ w.heap.size
  keep : ∀ b, b < w0.heap.size → ¬ A0 b → w.heap[b]? = w0.heap[b]?
  temps : ∀ i, R w (Nn O β s.bx) β s.bx (tm i) (s.t i)
  boxes : ∀ d, BR w (Nn O β s.bx) (β d) (s.bx d).st
  inj : ∀ d d' p p', d ≠ d' → (s.bx d).st.owned = true → (s.bx d').st.owned = true → β d = some p → β d' = some p' → p.1 ≠ p'.1
  out : ∀ d p, (s.bx d).st.owned = true → β d = some p → ¬ O p.1 ∧ p.1 < w.heap.size ∧ (p.1 < w0.heap.size → A0 p.1)
  outer : ∀ b, O b → b < w0.heap.size ∧ ¬ A0 b

theorem OwnB.lt {w : World} {b n : Nat} (h : OwnB w b n) : b < w.heap.size := by
  obtain ⟨arr, el, h, _⟩ := h
  exact (Array.getElem?_eq_some_iff.1 h).1

theorem OwnB.of_eq {w w' : World} {b n : Nat} (h : OwnB w b n) (e : w'.heap[b]? = w.heap[b]?) : OwnB w' b n := by
  obtain ⟨arr, el, h, hn⟩ := h
  exact ⟨arr, el, by rw [e]; exact h, hn⟩

/-- A new value in a slot, nothing else. -/
theorem Sim.put {O A0 : Nat → Prop} {w0 w : World} {β : Bt} {s : PS} {tm : Nat → Value} (h : Sim O w0 A0 β s tm w) (d : Nat) (pv : PV) (v : Value)
    (hv : R w (Nn O β s.bx) β s.bx v pv) : Sim O w0 A0 β (s.put d pv) (fun i => if i = d then v else tm i) w where
  os := h.os
  tape := h.tape
  output := h.output
  size := h.size
  keep := h.keep
  temps := fun i => by
    by_cases e : i = d
    · simp only [PS.put, if_pos e]; exact hv
    · simp only [PS.put, if_neg e]; exact h.temps i
  boxes := h.boxes
  inj := h.inj
  out := h.out
  outer := h.outer

/-- How a box may change: it is made anew, or it is gone, or it is as it lay, with other contents. -/
def Compat (w w' : World) (p p' : Option (Nat × Nat)) (b b' : Box) : Prop :=
  b.ver < b'.ver ∨ (b.ver = b'.ver ∧ (b'.st = .dead ∨ (p' = p ∧
    (∀ cs, b'.st = .var cs → ∃ cs', b.st = .var cs') ∧ (∀ cs, b'.st = .vfz cs → ∃ cs', b.st = .var cs' ∨ b.st = .vfz cs') ∧
    (∀ sz es, b'.st = .sl sz es → (∃ es', b.st = .sl sz es') ∧ ∀ q n, p = some q → OwnB w q.1 n → OwnB w' q.1 n))))

theorem Compat.ver {w w' : World} {p p' : Option (Nat × Nat)} {b b' : Box} (h : Compat w w' p p' b b') : b.ver ≤ b'.ver := by
  rcases h with h | h
  · omega
  · omega

theorem R.change {w w' : World} {N N' : Nat → Prop} {β β' : Bt} {bx bx' : Nat → Box} {v : Value} {pv : PV} (e : Ext w N w' N') (hc : ∀ d, Compat w w' (β d) (β' d) (bx d) (bx' d))
    (h : R w N β bx v pv) : R w' N' β' bx' v pv := by
  cases pv with
  | c c => exact V.ext e h
  | ptr d ver off =>
    obtain ⟨h1, h2⟩ := h
    refine ⟨Nat.le_trans h1 (hc d).ver, fun hv cs hs => ?_⟩
    rcases hc d with hlt | ⟨heq, hd | ⟨hp, hk, hk', _⟩⟩
    · omega
    · rcases hs with hs | hs <;> rw [hd] at hs <;> cases hs
    · have : ∃ cs, (bx d).st = .var cs ∨ (bx d).st = .vfz cs := by
        rcases hs with hs | hs
        · obtain ⟨c, hc⟩ := hk cs hs; exact ⟨c, .inl hc⟩
        · exact hk' cs hs
      obtain ⟨cs', hs'⟩ := this
      obtain ⟨b, base, hb, he⟩ := h2 (by omega) cs' hs'
      exact ⟨b, base, by rw [hp]; exact hb, he⟩
  | rp cs =>
    obtain ⟨b, off, hv, hb, hN, hcs⟩ := h
    exact ⟨b, off, hv, Nat.lt_of_lt_of_le hb e.size, fun hn => hN (e.less b hb hn), hcs.ext e (e.keep b hb hN)⟩
  | osl d ver off len =>
    obtain ⟨h1, h2⟩ := h
    refine ⟨Nat.le_trans h1 (hc d).ver, fun hv sz es hs => ?_⟩
    rcases hc d with hlt | ⟨heq, hd | ⟨hp, hk, _, hk2⟩⟩
    · omega
    · rw [hd] at hs; cases hs
    · obtain ⟨⟨es', hs'⟩, hown⟩ := hk2 sz es hs
      obtain ⟨ho, hor⟩ := h2 (by omega) sz es' hs'
      refine ⟨ho, ?_⟩
      rcases hor with ⟨a, b, c⟩ | ⟨b, cap, hb, hv, hl, ho⟩
      · exact .inl ⟨by rw [hp]; exact a, b, c⟩
      · exact .inr ⟨b, cap, by rw [hp]; exact hb, hv, hl, hown _ _ hb ho⟩
  | sp d ver i off =>
    obtain ⟨h1, h2⟩ := h
    refine ⟨Nat.le_trans h1 (hc d).ver, fun hv sz es hs => ?_⟩
    rcases hc d with hlt | ⟨heq, hd | ⟨hp, hk, _, hk2⟩⟩
    · omega
    · rw [hd] at hs; cases hs
    · obtain ⟨⟨es', hs'⟩, _⟩ := hk2 sz es hs
      obtain ⟨b, hb, hv⟩ := h2 (by omega) sz es' hs'
      exact ⟨b, by rw [hp]; exact hb, hv⟩
  | undef => exact h
  | junk => trivial

theorem Compat.same {w w' : World} {p : Option (Nat × Nat)} {b : Box} (h : ∀ q n, b.st.owned = true → p = some q → OwnB w q.1 n → OwnB w' q.1 n) : Compat w w' p p b b :=
  .inr ⟨rfl, .inr ⟨rfl, fun cs h => ⟨cs, h⟩, fun cs h => ⟨cs, .inr h⟩, fun sz es hs => ⟨⟨es, hs⟩, fun q n hq => h q n (by rw [hs]; rfl) hq⟩⟩⟩

/-- ONE BOX CHANGES (or none: 'd' out of use), the world goes on: what is owed for it. -/
theorem Sim.change {O A0 : Nat → Prop} {w0 w w' : World} {β : Bt} {s : PS} {tm : Nat → Value} (h : Sim O w0 A0 β s tm w) (d : Nat) (p' : Option (Nat × Nat)) (b' : Box)
    (hos : w'.os = w.os) (htape : w'.tape = w.tape) (hout : w'.output = w.output) (hsize : w.heap.size ≤ w'.heap.size)
    -- blocks that stood are as they were, but that of 'd'
    (hkeep : ∀ b, b < w.heap.size → (∀ p, (s.bx d).st.owned = true → β d = some p → b ≠ p.1) → w'.heap[b]? = w.heap[b]?)
    (hcompat : Compat w w' (β d) p' (s.bx d) b')
    -- the new block: it was 'd's own, or it is new
    (hnew : ∀ p, b'.st.owned = true → p' = some p → ((s.bx d).st.owned = true ∧ ∃ q, β d = some q ∧ q.1 = p.1) ∨ (w.heap.size ≤ p.1 ∧ p.1 < w'.heap.size))
    (hbr : BR w' (Nn O (fun i => if i = d then p' else β i) (fun i => if i = d then b' else s.bx i)) p' b'.st) :
    Sim O w0 A0 (fun i => if i = d then p' else β i) (s.box d b') tm w' := by
  have hless : ∀ b, b < w.heap.size → Nn O (fun i => if i = d then p' else β i) (fun i => if i = d then b' else s.bx i) b → Nn O β s.bx b := by
    intro b hb hn
    rcases hn with hn | ⟨i, base, ho, hi⟩
    · exact .inl hn
    · by_cases e : i = d
      · subst e
        simp only [if_true] at ho hi
        rcases hnew _ ho hi with ⟨ho', q, hq, he⟩ | ⟨h1, _⟩
        · exact .inr ⟨i, q.2, ho', by obtain ⟨q1, q2⟩ := q; simp at he; rw [hq, he]⟩
        · simp at h1; omega
      · simp only [if_neg e] at ho hi
        exact .inr ⟨i, base, ho, hi⟩
  have e : Ext w (Nn O β s.bx) w' (Nn O (fun i => if i = d then p' else β i) (fun i => if i = d then b' else s.bx i)) := by
    refine ⟨hsize, fun b hb hn => hkeep b hb fun p ho hp he => hn (.inr ⟨d, p.2, ho, by rw [hp, he]⟩), hless⟩
  have hblk : ∀ i p, i ≠ d → (s.bx i).st.owned = true → β i = some p → w'.heap[p.1]? = w.heap[p.1]? := by
    intro i p hi ho hp
    refine hkeep _ (h.out i p ho hp).2.1 fun q ho' hq => ?_
    exact h.inj i d p q hi ho ho' hp hq
  have hcomp : ∀ i, Compat w w' (β i) ((fun i => if i = d then p' else β i) i) (s.bx i) ((fun i => if i = d then b' else s.bx i) i) := by
    intro i
    by_cases hi : i = d
    · subst hi; simp only [if_true]; exact hcompat
    · simp only [if_neg hi]
      exact Compat.same fun q n ho hq hw => hw.of_eq (hblk i q hi ho hq)
  refine ⟨hos.trans h.os, htape.trans h.tape, hout.trans h.output, Nat.le_trans h.size hsize, ?_, fun i => (h.temps i).change e hcomp, ?_, ?_, ?_, h.outer⟩
  · intro b hb hn
    rw [hkeep b (Nat.lt_of_lt_of_le hb h.size) fun p ho hp he => hn (he ▸ (h.out d p ho hp).2.2 (he ▸ hb))]
    exact h.keep b hb hn
  · intro i
    by_cases hi : i = d
    · subst hi; simp only [PS.box, if_true]; exact hbr
    · have hb := h.boxes i
      simp only [PS.box, if_neg hi]
      cases hst : (s.bx i).st with
      | var cs =>
        rw [hst] at hb
        obtain ⟨b, base, hp, ho, hc⟩ := hb
        have hq := hblk i _ hi (by rw [hst]; rfl) hp
        exact ⟨b, base, hp, ho.of_eq hq, hc.ext e hq⟩
      | vfz cs =>
        rw [hst] at hb
        obtain ⟨b, base, hp, hlt, hN, hc⟩ := hb
        exact ⟨b, base, hp, Nat.lt_of_lt_of_le hlt hsize, fun hn => hN (hless b hlt hn), hc.ext e (e.keep b hlt hN)⟩
      | sl sz es =>
        rw [hst] at hb
        refine ⟨hb.1, ?_⟩
        rcases hb.2 with hb | ⟨b, hp, ho, hc⟩
        · exact .inl hb
        · have hq := hblk i _ hi (by rw [hst]; rfl) hp
          exact .inr ⟨b, hp, ho.of_eq hq, fun i hi => (hc i hi).ext e hq⟩
      | dead => trivial
  · intro i j p q hij hi hj hp hq
    simp only [PS.box] at hi hj
    by_cases ei : i = d
    · subst ei
      have ej : j ≠ i := fun e => hij e.symm
      simp only [if_true, if_neg ej] at hi hj hp hq
      rcases hnew _ hi hp with ⟨ho', r, hr, he⟩ | ⟨h1, _⟩
      · rw [← he]; exact h.inj i j r q hij ho' hj hr hq
      · have := (h.out j q hj hq).2.1; omega
    · by_cases ej : j = d
      · subst ej
        simp only [if_true, if_neg ei] at hi hj hp hq
        rcases hnew _ hj hq with ⟨ho', r, hr, he⟩ | ⟨h1, _⟩
        · rw [← he]; exact h.inj i j p r hij hi ho' hp hr
        · have := (h.out i p hi hp).2.1; omega
      · simp only [if_neg ei, if_neg ej] at hi hj hp hq
        exact h.inj i j p q hij hi hj hp hq
  · intro i p hi hp
    simp only [PS.box] at hi
    by_cases ei : i = d
    · subst ei
      simp only [if_true] at hi hp
      rcases hnew _ hi hp with ⟨ho', r, hr, he⟩ | ⟨h1, h2⟩
      · have := h.out i r ho' hr; rw [he] at this; exact ⟨this.1, Nat.lt_of_lt_of_le this.2.1 hsize, this.2.2⟩
      · exact ⟨fun ho => by have := (h.outer _ ho).1; have := h.size; omega, h2, fun hlt => by have := h.size; omega⟩
    · simp only [if_neg ei] at hi hp
      have := h.out i p hi hp
      exact ⟨this.1, Nat.lt_of_lt_of_le this.2.1 hsize, this.2.2⟩
end Go.Pl

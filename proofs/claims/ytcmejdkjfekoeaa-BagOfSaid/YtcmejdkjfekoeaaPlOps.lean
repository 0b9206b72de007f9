/-
  EACH OPERATION OF THE MODEL DOES TO A FRAME AND A WORLD WHAT THE PLAIN STEP DOES TO THE STATE THAT IS SAID OF THEM. My own work.
-/
import Derived.Test.YtcmejdkjfekoeaaPlSim
import Derived.AtR
import Derived.Laws.Tables
namespace Go.Pl
open Go
set_option linter.unusedVariables false

def tmf (a : Act) : Nat → Value := fun i => a.tmps.getD i undef

theorem tmf_put {a : Act} {d : Nat} (v : Value) (h : d < a.tmps.size) : tmf (a.put (some d) v) = fun i => if i = d then v else tmf a i := by
  funext i
  simp only [tmf, Act.put, Array.getD_eq_getD_getElem?, Array.getElem?_setIfInBounds]
  by_cases e : i = d
  · subst e; simp [h]
  · have : ¬ d = i := fun h => e h.symm
    simp [e, this]

def dstOk (o : Option Nat) (n : Nat) : Prop := ∀ d, o = some d → d < n

theorem Sim.putO {O A0 : Nat → Prop} {w0 w : World} {β : Bt} {s : PS} {a : Act} (h : Sim O w0 A0 β s (tmf a) w) (o : Option Nat) (ho : dstOk o a.tmps.size) (pv : PV) (v : Value)
    (hv : R w (Nn O β s.bx) β s.bx v pv) : Sim O w0 A0 β (s.putO o pv) (tmf (a.put o v)) w := by
  cases o with
  | none => exact h
  | some d => rw [tmf_put v (ho d rfl)]; exact h.put d pv v hv

/-! ### Constants and operands -/
def chk1 : Value → CV → Bool
  | .int k n, .int k' m => decide (k = k' ∧ n = m)
  | .bool a, .bool b => a == b
  | .string a, .str b => decide (a = b)
  | .pointer none, .nilp => true
  | .nilIface, .nili => true
  | .nilFunc, .nilf => true
  | .slice none 0 0, .sl [] => true
  | _, _ => false
def chkL : List Value → List CV → Bool
  | [], [] => true
  | v :: l, c :: m => chk1 v c && chkL l m
  | _, _ => false
def chkV : Value → CV → Bool
  | .agg vs, .agg cs => chkL vs.toList cs
  | v, c => chk1 v c

theorem chk1_V {v : Value} {c : CV} (h : chk1 v c = true) (w : World) (N : Nat → Prop) : V w N v c ∧ c.one = true := by
  unfold chk1 at h
  split at h
  · obtain ⟨rfl, rfl⟩ := of_decide_eq_true h; exact ⟨.int _ _, rfl⟩
  · obtain rfl := eq_of_beq h; exact ⟨.bool _, rfl⟩
  · obtain rfl := of_decide_eq_true h; exact ⟨.str _, rfl⟩
  · exact ⟨.nilp, rfl⟩
  · exact ⟨.nili, rfl⟩
  · exact ⟨.nilf, rfl⟩
  · exact ⟨.nil, rfl⟩
  · cases h
theorem chkL_V {w : World} {N : Nat → Prop} : ∀ {vs : List Value} {cs : List CV}, chkL vs cs = true →
    vs.length = cs.length ∧ (∀ c ∈ cs, c.one = true) ∧ ∀ (i : Nat) (h1 : i < vs.length) (h2 : i < cs.length), V w N vs[i] cs[i]
  | [], [], _ => ⟨rfl, by simp, fun i h => by simp at h⟩
  | v :: l, c :: m, h => by
    simp only [chkL, Bool.and_eq_true] at h
    obtain ⟨hl, h1, hv⟩ := chkL_V (w := w) (N := N) h.2
    have h0 := chk1_V h.1 w N
    refine ⟨by simp [hl], ?_, ?_⟩
    · intro x hx
      rcases List.mem_cons.1 hx with rfl | hx
      · exact h0.2
      · exact h1 x hx
    · intro i hi hj
      cases i with
      | zero => exact h0.1
      | succ i => exact hv i (by simpa using hi) (by simpa using hj)
theorem chkV_V {v : Value} {c : CV} (h : chkV v c = true) (w : World) (N : Nat → Prop) : V w N v c := by
  unfold chkV at h
  split at h
  · rename_i vs cs
    obtain ⟨hl, h1, hv⟩ := chkL_V (w := w) (N := N) h
    exact .agg vs cs (by simpa using hl) h1 (fun i hi hj => by have := hv i (by simpa using hi) hj; simpa using this)
  · exact (chk1_V h w N).1

def chkPO : Operand → PO → Bool
  | .tmp i, .t j => decide (i = j)
  | .const v, .k c => chkV v c
  | .func f, .k (.fn (.func g) []) => decide (f = g)
  | _, _ => false

section
variable {O A0 : Nat → Prop} {w0 w : World} {β : Bt} {s : PS} {a : Act} {P : Program}

theorem ev_R (h : Sim O w0 A0 β s (tmf a) w) {x : Operand} {y : PO} (hc : chkPO x y = true) : R w (Nn O β s.bx) β s.bx (a.eval x) (s.ev y) := by
  unfold chkPO at hc
  split at hc
  · obtain rfl := of_decide_eq_true hc; exact h.temps _
  · exact chkV_V hc _ _
  · obtain rfl := of_decide_eq_true hc
    exact V.fn _ #[] [] rfl (fun i hi => by simp at hi)
  · cases hc

theorem evc_V (h : Sim O w0 A0 β s (tmf a) w) {x : Operand} {y : PO} {c : CV} (hc : chkPO x y = true) (he : s.evc y = some c) : V w (Nn O β s.bx) (a.eval x) c := by
  have := ev_R h hc
  unfold PS.evc at he
  split at he
  · rename_i v hv; rw [hv] at this; obtain rfl := Option.some.inj he; exact this
  · cases he

theorem V.int_inv {N : Nat → Prop} {v : Value} {k : IntKind} {n : Int} (h : V w N v (.int k n)) : v = .int k n := by cases h; rfl
theorem V.bool_inv {N : Nat → Prop} {v : Value} {b : Bool} (h : V w N v (.bool b)) : v = .bool b := by cases h; rfl
theorem V.str_inv {N : Nat → Prop} {v : Value} {b : ByteArray} (h : V w N v (.str b)) : v = .string b := by cases h; rfl

/-- The cells of a value that is no tuple. -/
theorem V.cells {N : Nat → Prop} {v : Value} {c : CV} (h : V w N v c) (hn : 0 < c.cells.length) :
    v.cells.size = c.cells.length ∧ (∀ x ∈ c.cells, x.one = true) ∧ ∀ (j : Nat) (h1 : j < v.cells.size) (h2 : j < c.cells.length), V w N v.cells[j] c.cells[j] := by
  have one : ∀ {v : Value} {c : CV}, V w N v c → v.cells = #[v] → c.cells = [c] → c.one = true →
      v.cells.size = c.cells.length ∧ (∀ x ∈ c.cells, x.one = true) ∧ ∀ (j : Nat) (h1 : j < v.cells.size) (h2 : j < c.cells.length), V w N v.cells[j] c.cells[j] := by
    intro v c h hv hc h1
    simp only [hv, hc]
    refine ⟨rfl, by simpa using h1, fun j hj hj' => ?_⟩
    have : j = 0 := by simp at hj; omega
    subst this
    exact h
  cases h with
  | agg vs cs hl h1 h => exact ⟨hl, h1, h⟩
  | tup vs cs hl h => simp [CV.cells] at hn
  | int k n => exact one (.int k n) rfl rfl rfl
  | bool b => exact one (.bool b) rfl rfl rfl
  | str s => exact one (.str s) rfl rfl rfl
  | nilp => exact one .nilp rfl rfl rfl
  | nili => exact one .nili rfl rfl rfl
  | nilf => exact one .nilf rfl rfl rfl
  | iface t v c h => exact one (.iface t v c h) rfl rfl rfl
  | fn f vs cs hl h => exact one (.fn f vs cs hl h) rfl rfl rfl
  | clo f b v c hb hN hr h => exact one (.clo f b v c hb hN hr h) rfl rfl rfl
  | nil => exact one .nil rfl rfl rfl
  | emp b cap => exact one (.emp b cap) rfl rfl rfl
  | sl b off cap sz es c hb hN hz hc h1 hr h => exact one (.sl b off cap sz es c hb hN hz hc h1 hr h) rfl rfl rfl

/-! ### What a step owes -/
/-- The model's operation 'o' does what the plain step does. -/
def Does (P : Program) (o : Oper) (O A0 : Nat → Prop) (w0 : World) (a : Act) (w : World) (s' : PS) : Prop :=
  ∃ nx v w' β', (execOp a.eval o).run P w = .ok nx w' ∧ (nx = .value v ∨ (nx = .skip ∧ v = undef)) ∧ Sim O w0 A0 β' s' (tmf (a.put o.dst v)) w'

theorem Does.val {o : Oper} (h : Sim O w0 A0 β s (tmf a) w) (ho : dstOk o.dst a.tmps.size) {v : Value} {pv : PV} (hr : (execOp a.eval o).run P w = .ok (.value v) w)
    (hv : R w (Nn O β s.bx) β s.bx v pv) : Does P o O A0 w0 a w (s.putO o.dst pv) :=
  ⟨_, v, w, β, hr, .inl rfl, h.putO _ ho pv v hv⟩

/-- A new block for box 'd', and the slot 'd' points to it. -/
theorem sim_new (h : Sim O w0 A0 β s (tmf a) w) {d : Nat} (hd : d < a.tmps.size) (cells : Array Value) (el : TypeId) (b' : Box) (pv : PV) (v : Value)
    (hver : (s.bx d).ver < b'.ver)
    (hbr : ∀ N : Nat → Prop, Ext w (Nn O β s.bx) (w.alloc (.cells cells el)) N → BR (w.alloc (.cells cells el)) N (some (w.heap.size, 0)) b'.st)
    (hR : ∀ N β' bx', β' d = some (w.heap.size, 0) → bx' d = b' → R (w.alloc (.cells cells el)) N β' bx' v pv) :
    Sim O w0 A0 (fun i => if i = d then some (w.heap.size, 0) else β i) ((s.box d b').put d pv) (tmf (a.put (some d) v)) (w.alloc (.cells cells el)) := by
  have hsize : (w.alloc (.cells cells el)).heap.size = w.heap.size + 1 := Array.size_push _
  have hk : ∀ b, b < w.heap.size → (w.alloc (.cells cells el)).heap[b]? = w.heap[b]? := fun b hb => by
    show (w.heap.push _)[b]? = _; rw [Array.getElem?_push, if_neg (by omega)]
  have hext : Ext w (Nn O β s.bx) (w.alloc (.cells cells el)) (Nn O (fun i => if i = d then some (w.heap.size, 0) else β i) (fun i => if i = d then b' else s.bx i)) := by
    refine ⟨by omega, fun b hb _ => hk b hb, fun b hb hn => ?_⟩
    rcases hn with hn | ⟨i, base, ho, hi⟩
    · exact .inl hn
    · by_cases e : i = d
      · simp only [if_pos e, Option.some.injEq, Prod.mk.injEq] at hi; omega
      · simp only [if_neg e] at ho hi; exact .inr ⟨i, base, ho, hi⟩
  have := h.change (w' := w.alloc (.cells cells el)) d (some (w.heap.size, 0)) b' rfl rfl rfl (by omega) (fun b hb _ => hk b hb) (.inl hver)
    (fun p _ hp => by simp only [Option.some.injEq] at hp; subst hp; exact .inr ⟨Nat.le_refl _, by show w.heap.size < _; omega⟩) (hbr _ hext)
  rw [tmf_put v hd]
  exact this.put d pv v (hR _ _ _ (by simp) (by simp [PS.box]))

theorem Addr.add_zero' (b o : Nat) (j : Nat) : (⟨b, o, none⟩ : Addr).add j = ⟨b, o + j, none⟩ := Addr.add_mid b o j

/-- loading through a pointer to cells that read -/
theorem run_load_cells {N : Nat → Prop} {b off n : Nat} {cs : List CV} (t : TypeId) (d : TypeDesc) (i : TypeInfo) (hu : P.underlying t = some d) (hi : P.info? t = some i) (hn : i.size = n) (f : Bool) (hf : d.isRow = f)
    (h1 : f = false → n = 1) (hc : CellsAt w N b off cs) (hl : n ≤ cs.length) :
    ∃ v, (Instr.loadAt t (.pointer (some ⟨b, off, none⟩))).run P w = .ok v w ∧ V w N v (rdc f n cs) := by
  obtain ⟨ho, hc⟩ := hc
  cases f with
  | true =>
    have hex : ∀ j : Fin n, ∃ v, w.cell? ⟨b, off + j.1, none⟩ = some v ∧ V w N v (cs[j.1]'(by omega)) := fun j => hc j.1 (by omega)
    have hch := fun j => Classical.choose_spec (hex j)
    refine ⟨_, run_loadAt_mid w b off t (List.ofFn fun j => Classical.choose (hex j)) d ?_ hu hf (by simp [hi, hn]), ?_⟩
    · intro j v hv
      simp only [List.getElem?_ofFn] at hv
      split at hv
      · rename_i hj; obtain rfl := Option.some.inj hv; exact (hch ⟨j, hj⟩).1
      · cases hv
    · simp only [rdc, if_true]
      refine .agg _ _ (by simp; omega) (fun c hc' => ho c (List.mem_of_mem_take hc')) fun j h1 h2 => ?_
      have hj : j < n := by simpa using h1
      have := (hch ⟨j, hj⟩).2
      simpa using this
  | false =>
    have hn1 := h1 rfl
    obtain ⟨v, hv, hV⟩ := hc 0 (by omega)
    refine ⟨v, ?_, ?_⟩
    · have hagg : (isAgg t).run P w = .ok false w := by
        unfold isAgg
        rw [Sem.run_bind, run_underlying hu w]
        cases d <;> simp_all [TypeDesc.isRow]
      simp only [Nat.add_zero] at hv
      simp only [Instr.loadAt, Instr.sureAddr, Sem.run_bind, Sem.run_pure, Result.andThen_ok, loadVar, hagg, Bool.false_eq_true, if_false, run_load, hv]
    · cases cs with
      | nil => simp at hl; omega
      | cons c l => simpa [rdc] using hV

theorem CellsAt.drop {N : Nat → Prop} {b off : Nat} {cs : List CV} (h : CellsAt w N b off cs) (k : Nat) : CellsAt w N b (off + k) (cs.drop k) :=
  ⟨fun c hc => h.1 c (List.mem_of_mem_drop hc), fun j hj => by
    have hj' : k + j < cs.length := by simp at hj; omega
    obtain ⟨v, hv, hV⟩ := h.2 (k + j) hj'
    exact ⟨v, by rw [Nat.add_assoc]; exact hv, by simpa using hV⟩⟩

/-- the cells of a load's pointer -/
theorem load_cells (h : Sim O w0 A0 β s (tmf a) w) {x : Operand} {y : PO} (hc : chkPO x y = true) {dst : Option Nat} {f : Bool} {n : Nat} {av : List Nat} {s' : PS} (hs : pstep dst s (.load f n y av) = some s') :
    ∃ b off cs, a.eval x = .pointer (some ⟨b, off, none⟩) ∧ CellsAt w (Nn O β s.bx) b off cs ∧ n ≤ cs.length ∧ s' = s.putO dst (.c (rdc f n cs)) := by
  have hR := ev_R h hc
  simp only [pstep] at hs
  split at hs
  · rename_i cs hy
    rw [hy] at hR
    obtain ⟨b, off, hv, _, _, hcs⟩ := hR
    split at hs
    · exact ⟨b, off, cs, hv, hcs, ‹_›, (Option.some.inj hs).symm⟩
    · cases hs
  · rename_i d ver off hy
    rw [hy] at hR
    split at hs
    · cases hs
    · split at hs
      · rename_i v cs hb
        split at hs
        · rename_i hv
          obtain ⟨rfl, hl⟩ := hv
          obtain ⟨b, base, hβ, he⟩ := hR.2 (by rw [hb]) cs (.inl (by rw [hb]))
          have hB := h.boxes d
          rw [hb] at hB
          obtain ⟨b', base', hp, _, hcs⟩ := hB
          rw [hβ] at hp
          obtain ⟨rfl, rfl⟩ := Prod.mk.inj (Option.some.inj hp)
          exact ⟨b, base + off, cs.drop off, he, hcs.drop off, by simp; omega, (Option.some.inj hs).symm⟩
        · cases hs
      · rename_i v cs hb
        split at hs
        · rename_i hv
          obtain ⟨rfl, hl⟩ := hv
          obtain ⟨b, base, hβ, he⟩ := hR.2 (by rw [hb]) cs (.inr (by rw [hb]))
          have hB := h.boxes d
          rw [hb] at hB
          obtain ⟨b', base', hp, _, _, hcs⟩ := hB
          rw [hβ] at hp
          obtain ⟨rfl, rfl⟩ := Prod.mk.inj (Option.some.inj hp)
          exact ⟨b, base + off, cs.drop off, he, hcs.drop off, by simp; omega, (Option.some.inj hs).symm⟩
        · cases hs
      · cases hs
  · rename_i d ver i off hy
    rw [hy] at hR
    split at hs
    · cases hs
    · split at hs
      · rename_i v sz es hb
        split at hs
        · rename_i e he
          split at hs
          · rename_i hv
            obtain ⟨rfl, hl⟩ := hv
            obtain ⟨b, hβ, hp⟩ := hR.2 (by rw [hb]) sz es (by rw [hb])
            have hB := h.boxes d
            rw [hb] at hB
            rcases hB.2 with ⟨hn, _⟩ | ⟨b', hp', _, hcs⟩
            · rw [hβ] at hn; cases hn
            · rw [hβ] at hp'
              obtain ⟨rfl, _⟩ := Prod.mk.inj (Option.some.inj hp')
              obtain ⟨hi, rfl⟩ := List.getElem?_eq_some_iff.1 he
              exact ⟨b, i * sz + off, es[i].drop off, hp, (hcs i hi).drop off, by simp; omega, (Option.some.inj hs).symm⟩
          · cases hs
        · cases hs
      · cases hs
  · cases hs

/-! ### The operations -/
theorem ok_mv {o : Oper} {x : Operand} {y : PO} (ho : o.op = .move x ∨ o.op = .assign x) (h : Sim O w0 A0 β s (tmf a) w) (hd : dstOk o.dst a.tmps.size) (hc : chkPO x y = true) {s' : PS}
    (hs : pstep o.dst s (.mv y) = some s') : Does P o O A0 w0 a w s' := by
  obtain rfl := Option.some.inj hs
  refine Does.val h hd (v := a.eval x) ?_ (ev_R h hc)
  unfold execOp
  rcases ho with ho | ho <;> simp only [ho, Sem.run_pure]

theorem ok_pick {o : Oper} {c x y : Operand} {c' x' y' : PO} (ho : o.op = .pick c x y) (h : Sim O w0 A0 β s (tmf a) w) (hd : dstOk o.dst a.tmps.size) (hc : chkPO c c' = true) (hx : chkPO x x' = true) (hy : chkPO y y' = true) {s' : PS}
    (hs : pstep o.dst s (.pick c' x' y') = some s') : Does P o O A0 w0 a w s' := by
  simp only [pstep] at hs
  split at hs
  · rename_i t ht
    obtain rfl := Option.some.inj hs
    have hb := ev_R h hc
    rw [ht] at hb
    have hb := V.bool_inv hb
    refine Does.val h hd (v := if t = true then a.eval x else a.eval y) ?_ ?_
    · unfold execOp
      simp only [ho, hb, asBool, Sem.run_bind, Sem.run_pure, Result.andThen_ok]
    · cases t
      · exact ev_R h hy
      · exact ev_R h hx
  · cases hs

theorem ok_load {o : Oper} {t : TypeId} {x : Operand} {y : PO} {f : Bool} {n : Nat} {av : List Nat} (ho : o.op = .load t x) (h : Sim O w0 A0 β s (tmf a) w) (hd : dstOk o.dst a.tmps.size) (hc : chkPO x y = true)
    (d : TypeDesc) (i : TypeInfo) (hu : P.underlying t = some d) (hi : P.info? t = some i) (hn : i.size = n) (hf : d.isRow = f) (h1 : f = false → n = 1) {s' : PS}
    (hs : pstep o.dst s (.load f n y av) = some s') : Does P o O A0 w0 a w s' := by
  obtain ⟨b, off, cs, he, hcs, hl, rfl⟩ := load_cells h hc hs
  obtain ⟨v, hr, hV⟩ := run_load_cells t d i hu hi hn f hf h1 hcs hl
  refine Does.val h hd (v := v) ?_ hV
  unfold execOp
  simp only [ho, he, Sem.run_bind, hr, Result.andThen_ok, Sem.run_pure]
end
end Go.Pl

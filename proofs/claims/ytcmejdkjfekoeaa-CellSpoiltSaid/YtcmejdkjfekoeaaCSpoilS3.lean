/- Part of the proof of CellSpoilt: lemmas. -/
import Derived.Test.YtcmejdkjfekoeaaCSpoilS2
import Derived.Laws.NewFold
import Derived.Laws.Externs
import Derived.KernelRfl
set_option linter.unusedVariables false
set_option linter.unusedSimpArgs false
/-
  EACH OPERATION, GOES ON: slices of slices, literals of structs, arrays, slices. My own work.
-/
namespace Go.Pl
open Go
set_option linter.unusedVariables false
section
variable {O : Nat → Prop} {A0 : Lent} {w0 w : World} {β : Bt} {s : PS} {a : Act} {P : Program}
def chkOO : Option Operand → Option PO → Bool
  | none, none => true
  | some x, some y => chkPO x y
  | _, _ => false
theorem bound_run (h : Sim O w0 A0 β s (tmf a) w) {x : Option Operand} {y : Option PO} (hc : chkOO x y = true) {dflt n top : Nat} (hb : bound s dflt y = some n) (hn : n ≤ top) (code : BoundsCode) :
    (x = none ∧ n = dflt) ∨ ∃ z, x = some z ∧ (Instr.sliceBound (a.eval z) top code).run P w = .ok n w := by
  cases y with
  | none =>
    cases x with
    | none => exact .inl ⟨rfl, (Option.some.inj hb).symm⟩
    | some z => cases hc
  | some y =>
    cases x with
    | none => cases hc
    | some z =>
      simp only [bound] at hb
      split at hb
      · rename_i k m hm
        split at hb
        · rename_i h0
          obtain rfl := Option.some.inj hb
          have hV := V.int_inv (evc_V h hc hm)
          refine .inr ⟨z, rfl, ?_⟩
          simp only [Instr.sliceBound, hV, asIntOf, Sem.run_bind, Sem.run_pure, Result.andThen_ok, Sem.run_ite]
          rw [if_pos ⟨h0, by omega⟩]
        · cases hb
      · cases hb
theorem ok_slc {o : Oper} {t e : TypeId} {sz0 : Nat} {x : Operand} {y : PO} {lo hi : Option Operand} {lo' hi' : Option PO} {i : TypeInfo} (ho : o.op = .slice t x lo hi none) (h : Sim O w0 A0 β s (tmf a) w) (hd : dstOk o.dst a.tmps.size) (hc : chkPO x y = true)
    (hlo : chkOO lo lo' = true) (hhi : chkOO hi hi' = true) (hu : P.underlying t = some (.slice e)) (hi0 : P.info? e = some i) {s' : PS} (hisz : i.size = sz0) (hs : pstep o.dst s (.slc sz0 y lo' hi') = some s') : Does P o O A0 w0 a w s' := by
  have hR := ev_R h hc
  simp only [pstep] at hs
  split at hs
  · rename_i es hy
    rw [hy] at hR
    split at hs
    · rename_i l k hl hk
      split at hs
      · rename_i hlk
        obtain rfl := Option.some.inj hs
        have run : ∀ (b : Option Addr) (cap : Nat), a.eval x = .slice b es.length cap → es.length ≤ cap →
            (execOp a.eval o).run P w = .ok (.value (.slice (if cap = l then b else b.map (·.add (l * i.size))) (k - l) (cap - l))) w := by
          intro b cap he hcap
          have hb1 := bound_run (P := P) h hhi hk (top := cap) (by omega) .sliceAcap
          have hb2 := bound_run (P := P) h hlo hl (top := k) (by omega) .sliceB
          have hbs : (Instr.sliceBounds true es.length cap (lo.map a.eval) (hi.map a.eval) none).run P w = .ok (l, k, cap) w := by
            unfold Instr.sliceBounds
            rcases hb1 with ⟨rfl, rfl⟩ | ⟨z1, rfl, hz1⟩ <;> rcases hb2 with ⟨rfl, rfl⟩ | ⟨z2, rfl, hz2⟩ <;> simp [Sem.run_bind, *]
          unfold execOp
          simp only [ho, he, Instr.sliceAt, Instr.slice, Option.map_none, Sem.run_bind, run_underlying hu, Result.andThen_ok, hbs, sizeOf, typeInfo, program, Sem.run, hi0, Sem.run_pure]
        generalize hvx : a.eval x = vx at hR
        cases hR with
        | nil =>
          have hl0 : l = 0 := by simp at hlk; omega
          have hk0 : k = 0 := by simp at hlk; omega
          subst hl0; subst hk0
          have := run none 0 (by simpa using hvx) (by simp)
          simp at this
          refine Does.val h hd this ?_
          simp only [List.take_nil, List.drop_nil]
          exact V.nil
        | emp b cap =>
          have hl0 : l = 0 := by simp at hlk; omega
          have hk0 : k = 0 := by simp at hlk; omega
          subst hl0; subst hk0
          have := run (some b) cap (by simpa using hvx) (by simp)
          have e0 : (if cap = 0 then some b else (some b).map (·.add (0 * i.size))) = some b := by
            split
            · rfl
            · simp [Addr.add]
          rw [e0] at this
          refine Does.val h hd this ?_
          simp only [List.take_nil, List.drop_nil, Nat.sub_zero]
          exact V.emp _ _
        | sl b off cap sz _ c hb hN hz hcap h1 hread hVV =>
          have hrun := run _ cap hvx hcap
          have hlen : ((es.take k).drop l).length = k - l := by simp; omega
          by_cases hcl : cap = l
          · have : k = l := by omega
            subst this
            rw [if_pos hcl] at hrun
            refine Does.val h hd hrun ?_
            have he : (es.take k).drop k = [] := by simp
            rw [he, Nat.sub_self]
            exact V.sl b off (cap - k) sz [] c hb hN (by simp) (by simp) (by simp) (fun i j hi => by simp at hi) (fun i j hi => by simp at hi)
          · rw [if_neg hcl] at hrun
            refine Does.val h hd hrun ?_
            simp only [Option.map_some, Addr.add_mid]
            by_cases hes : es = []
            · subst hes
              simp only [List.length_nil] at hlk
              have hl0 : l = 0 := by omega
              have hk0 : k = 0 := by omega
              subst hl0; subst hk0
              simp only [List.take_nil, List.drop_nil, Nat.sub_self]
              exact V.sl b _ (cap - 0) sz [] c hb hN (by simp) (by simp) (by simp) (fun i j hi => by simp at hi) (fun i j hi => by simp at hi)
            · have hsz : i.size = sz := by
                rw [hisz, ← hlk.2.2 _ (List.head_mem hes), hz _ (List.head_mem hes)]
              rw [hsz, ← hlen]
              refine V.sl b (off + l * sz) (cap - l) sz _ (fun p q => c (p + l) q) hb hN (fun e he => hz e (List.mem_of_mem_take (List.mem_of_mem_drop he))) (by omega) (fun e he => h1 e (List.mem_of_mem_take (List.mem_of_mem_drop he))) ?_ ?_
              · intro p q hp hq
                have hp' : p + l < es.length := by simp at hp; omega
                have hg : ((es.take k).drop l)[p] = es[l + p]'(by omega) := by simp
                have := hread (p + l) q hp' (by rw [hg] at hq; simpa [Nat.add_comm] using hq)
                rw [← this]
                congr 1
                rw [Nat.add_mul]
                congr 1
                omega
              · intro p q hp hq
                have hp' : p + l < es.length := by simp at hp; omega
                have hg : ((es.take k).drop l)[p] = es[l + p]'(by omega) := by simp
                have hq' : q < es[p + l].length := by rw [hg] at hq; simpa [Nat.add_comm] using hq
                have := hVV (p + l) q hp' hq'
                simp only [hg]
                simpa [Nat.add_comm] using this
      · cases hs
    · cases hs
  · cases hs
end
end Go.Pl
/-
  EACH OPERATION, GOES ON: literals of structs, arrays, slices; texts' parts; the greatest and the least; a slice of nothing that is the frame's own. My own work.
-/
namespace Go.Pl
open Go
set_option linter.unusedVariables false
section
variable {O : Nat → Prop} {A0 : Lent} {w0 w : World} {β : Bt} {s : PS} {a : Act} {P : Program}
theorem ok_slS {o : Oper} {t : TypeId} {x : Operand} {y : PO} {lo hi : Option Operand} {lo' hi' : Option PO} (ho : o.op = .slice t x lo hi none) (h : Sim O w0 A0 β s (tmf a) w) (hd : dstOk o.dst a.tmps.size) (hc : chkPO x y = true)
    (hlo : chkOO lo lo' = true) (hhi : chkOO hi hi' = true) (hu : P.underlying t = some .string) {s' : PS} (hs : pstep o.dst s (.slS y lo' hi') = some s') : Does P o O A0 w0 a w s' := by
  simp only [pstep] at hs
  split at hs
  · rename_i b hy
    have hV := V.str_inv (evc_V h hc hy)
    split at hs
    · rename_i l k hl hk
      split at hs
      · rename_i hlk
        obtain rfl := Option.some.inj hs
        have hb1 := bound_run (P := P) h hhi hk (top := b.size) (by omega) .sliceAlen
        have hb2 := bound_run (P := P) h hlo hl (top := k) (by omega) .sliceB
        have hbs : (Instr.sliceBounds false b.size b.size (lo.map a.eval) (hi.map a.eval) none).run P w = .ok (l, k, b.size) w := by
          unfold Instr.sliceBounds
          rcases hb1 with ⟨rfl, rfl⟩ | ⟨z1, rfl, hz1⟩ <;> rcases hb2 with ⟨rfl, rfl⟩ | ⟨z2, rfl, hz2⟩ <;> simp [Sem.run_bind, *]
        refine Does.val h hd (v := .string (b.extract l k)) ?_ (V.str _)
        unfold execOp
        simp only [ho, hV, Instr.sliceAt, Instr.slice, Option.map_none, Option.isSome_none, Bool.false_eq_true, if_false, Sem.run_bind, run_underlying hu, Result.andThen_ok, hbs, Sem.run_pure]
      · cases hs
    · cases hs
  · cases hs
theorem ok_nilc {o : Oper} {x : Operand} {y : PO} (ho : o.op = .nilCheck x) (h : Sim O w0 A0 β s (tmf a) w) (hd : dstOk o.dst a.tmps.size) (hc : chkPO x y = true) {s' : PS} (hs : pstep o.dst s (.nilc y) = some s') : Does P o O A0 w0 a w s' := by
  have hR := ev_R h hc
  have key : ∀ pv', ((∃ cs, s.ev y = .rp cs ∧ 0 ≤ cs.length ∧ pv' = .rp (cs.drop 0)) ∨ (∃ d e o st, s.ev y = .ptr d e o ∧ (s.bx d = ⟨e, st⟩ ∧ st.isv = true) ∧ pv' = .ptr d e (o + 0)) ∨
      (∃ d e i o sz es, s.ev y = .sp d e i o ∧ s.bx d = ⟨e, .sl sz es⟩ ∧ pv' = .sp d e i (o + 0))) → s' = s.putO o.dst pv' → Does P o O A0 w0 a w s' := by
    rintro pv' hp rfl
    obtain ⟨b, off, he, hR'⟩ := moved h hR hp
    refine Does.val h hd (v := .pointer (some ⟨b, off + 0, none⟩)) ?_ hR'
    unfold execOp
    simp only [ho, he, Sem.run_pure, Nat.add_zero]
  simp only [pstep] at hs
  split at hs
  · rename_i d v o' hy
    split at hs
    · rename_i u cs hb
      split at hs
      · rename_i hv
        subst hv
        exact key _ (.inr (.inl ⟨d, u, o', _, hy, ⟨hb, rfl⟩, rfl⟩)) (Option.some.inj hs).symm
      · cases hs
    · rename_i u cs hb
      split at hs
      · rename_i hv
        subst hv
        exact key _ (.inr (.inl ⟨d, u, o', _, hy, ⟨hb, rfl⟩, rfl⟩)) (Option.some.inj hs).symm
      · cases hs
    · cases hs
  · rename_i cs hy
    exact key _ (.inl ⟨cs, hy, Nat.zero_le _, rfl⟩) (Option.some.inj hs).symm
  · rename_i d v j o' hy
    split at hs
    · rename_i u sz es hb
      split at hs
      · rename_i hv
        subst hv
        exact key _ (.inr (.inr ⟨d, u, j, o', sz, es, hy, hb, rfl⟩)) (Option.some.inj hs).symm
      · cases hs
    · cases hs
  · cases hs
theorem ok_mki {o : Oper} {t : TypeId} {x : Operand} {y : PO} {d : TypeDesc} (ho : o.op = .makeInterface t x) (h : Sim O w0 A0 β s (tmf a) w) (hd : dstOk o.dst a.tmps.size) (hc : chkPO x y = true)
    (hu : P.underlying t = some d) (hdd : (match d with | .interface _ => false | _ => true) = true) {s' : PS} (hs : pstep o.dst s (.mki t y) = some s') : Does P o O A0 w0 a w s' := by
  simp only [pstep] at hs
  split at hs
  · rename_i c hy
    obtain rfl := Option.some.inj hs
    refine Does.val h hd (v := .iface t (a.eval x)) ?_ (V.iface t _ c (evc_V h hc hy))
    unfold execOp
    simp only [ho, Instr.makeInterface, Sem.run_bind, run_underlying hu, Result.andThen_ok]
    cases d <;> first | (simp at hdd; done) | rfl
  · cases hs
def chkPOs : List Operand → List PO → Bool
  | [], [] => true
  | x :: l, y :: m => chkPO x y && chkPOs l m
  | _, _ => false
theorem foldMm_run (h : Sim O w0 A0 β s (tmf a) w) (mx : Bool) (k : IntKind) : ∀ (xs : List Operand) (ys : List PO) (n r : Int), chkPOs xs ys = true → foldMm s mx k n ys = some r →
    ((xs.map a.eval).foldlM (if mx then Builtin.max2 else Builtin.min2) (.int k n)).run P w = .ok (.int k r) w
  | [], [], n, r, _, hf => by
    obtain rfl := Option.some.inj hf
    simp
  | [], _ :: _, n, r, hc, _ => by cases hc
  | _ :: _, [], n, r, hc, _ => by cases hc
  | x :: xs, y :: ys, n, r, hc, hf => by
    simp only [chkPOs, Bool.and_eq_true] at hc
    simp only [foldMm] at hf
    split at hf
    · rename_i k' m hm
      split at hf
      · rename_i hk
        subst hk
        have hV := V.int_inv (evc_V h hc.1 hm)
        have := foldMm_run h mx k xs ys _ r hc.2 hf
        simp only [List.map_cons, List.foldlM_cons, Sem.run_bind, hV]
        cases mx
        · simp only [Bool.false_eq_true, if_false, Builtin.min2, Sem.run_pure, Result.andThen_ok] at this ⊢
          exact this
        · simp only [if_true, Builtin.max2, Sem.run_pure, Result.andThen_ok] at this ⊢
          exact this
      · cases hf
    · cases hf
theorem ok_mm {o : Oper} {c : Call} {mx : Bool} {x : Operand} {y : PO} {xs : List Operand} {ys : List PO} (ho : o.op = .call c) (hcal : c.callee = .builtin (if mx then .max else .min)) (hargs : c.args.toList = x :: xs) (h : Sim O w0 A0 β s (tmf a) w) (hd : dstOk o.dst a.tmps.size)
    (hc : chkPO x y = true) (hcs : chkPOs xs ys = true) {s' : PS} (hs : pstep o.dst s (.mm mx y ys) = some s') : Does P o O A0 w0 a w s' := by
  simp only [pstep] at hs
  split at hs
  · rename_i k n hn
    split at hs
    · rename_i r hr
      obtain rfl := Option.some.inj hs
      have hV := V.int_inv (evc_V h hc hn)
      have hrun := foldMm_run (P := P) h mx k xs ys n r hcs hr
      refine Does.val h hd (v := .int k r) ?_ (V.int _ _)
      have hm : (c.args.map a.eval).toList = a.eval x :: xs.map a.eval := by simp [hargs]
      unfold execOp
      cases mx
      · simp only [Bool.false_eq_true, if_false] at hcal hrun
        simp only [ho, hcal, resolve, invoke, builtin, Builtin.min_, Sem.run_bind, Sem.run_pure, Result.andThen_ok, hm, hV, hrun]
      · simp only [if_true] at hcal hrun
        simp only [ho, hcal, resolve, invoke, builtin, Builtin.max_, Sem.run_bind, Sem.run_pure, Result.andThen_ok, hm, hV, hrun]
    · cases hs
  · cases hs
/-! ### Literals -/
theorem foldSet (off : Nat) : ∀ (l : List Value) (k : Nat) (cs : Array Value), off + k + l.length ≤ cs.size →
    ((l.zipIdx k).foldl (fun cs (p : Value × Nat) => cs.setIfInBounds (off + p.2) p.1) cs).size = cs.size ∧
    ∀ m, ((l.zipIdx k).foldl (fun cs (p : Value × Nat) => cs.setIfInBounds (off + p.2) p.1) cs)[m]? = if off + k ≤ m ∧ m < off + k + l.length then l[m - (off + k)]? else cs[m]?
  | [], k, cs, h => by
    refine ⟨rfl, fun m => ?_⟩
    rw [if_neg (by simp)]
    rfl
  | v :: l, k, cs, h => by
    simp only [List.length_cons] at h
    simp only [List.zipIdx_cons, List.foldl_cons]
    obtain ⟨h1, h2⟩ := foldSet off l (k + 1) (cs.setIfInBounds (off + k) v) (by simp; omega)
    refine ⟨by rw [h1]; simp, fun m => ?_⟩
    rw [h2]
    by_cases hm : m = off + k
    · subst hm
      rw [if_neg (by omega), if_pos (by simp only [List.length_cons]; omega)]
      simp [show off + k < cs.size by omega]
    · by_cases hin : off + (k + 1) ≤ m ∧ m < off + (k + 1) + l.length
      · rw [if_pos hin, if_pos (by simp only [List.length_cons]; omega)]
        rw [show m - (off + k) = (m - (off + (k + 1))) + 1 by omega]
        simp
      · rw [if_neg hin, if_neg (by simp only [List.length_cons]; omega)]
        rw [Array.getElem?_setIfInBounds, if_neg (by omega)]
theorem foldSetA (off : Nat) (vs cs : Array Value) (h : off + vs.size ≤ cs.size) :
    (vs.zipIdx.foldl (fun cs (p : Value × Nat) => cs.setIfInBounds (off + p.2) p.1) cs).size = cs.size ∧
    ∀ m, (vs.zipIdx.foldl (fun cs (p : Value × Nat) => cs.setIfInBounds (off + p.2) p.1) cs)[m]? = if off ≤ m ∧ m < off + vs.size then vs[m - off]? else cs[m]? := by
  have := foldSet off vs.toList 0 cs (by simpa using h)
  rw [← Array.foldl_toList, Array.toList_zipIdx]
  simpa using this
theorem Reads.get? {w : World} {N : Nat → Prop} {xs : Array Value} {cs : List CV} (h : Reads w N xs cs) {i : Nat} {v : Value} {c : CV} (hv : xs[i]? = some v) (hc : cs[i]? = some c) : V w N v c := by
  obtain ⟨h1, rfl⟩ := Array.getElem?_eq_some_iff.1 hv
  obtain ⟨h2, rfl⟩ := List.getElem?_eq_some_iff.1 hc
  exact h.get i h1 h2
theorem Reads.write {N : Nat → Prop} {xs : Array Value} {cs : List CV} (h : Reads w N xs cs) {v : Value} {c : CV} (hV : V w N v c) {off : Nat} (hn : 0 < c.cells.length) (hl : off + c.cells.length ≤ cs.length) :
    v.cells.size = c.cells.length ∧ Reads w N (v.cells.zipIdx.foldl (fun cs (p : Value × Nat) => cs.setIfInBounds (off + p.2) p.1) xs) (spl cs off c.cells) := by
  obtain ⟨h1, h2, h3⟩ := hV.cells hn
  obtain ⟨k1, k2⟩ := foldSetA off v.cells xs (by have := h.len; omega)
  refine ⟨h1, by rw [k1, spl_length hl]; exact h.len, fun i hi hj => ?_⟩
  have e1 : (v.cells.zipIdx.foldl (fun cs (p : Value × Nat) => cs.setIfInBounds (off + p.2) p.1) xs)[i]? = some _ := Array.getElem?_eq_getElem hi
  have e2 : (spl cs off c.cells)[i]? = some _ := List.getElem?_eq_getElem hj
  rw [k2] at e1
  rw [spl_get? hl] at e2
  rw [h1] at e1
  split at e1
  · rename_i hin
    rw [if_pos hin] at e2
    obtain ⟨q1, q2⟩ := Array.getElem?_eq_some_iff.1 e1
    obtain ⟨q3, q4⟩ := List.getElem?_eq_some_iff.1 e2
    rw [← q2, ← q4]
    exact h3 _ q1 q3
  · rename_i hin
    rw [if_neg hin] at e2
    exact h.get? e1 e2
def chkParts (place : Nat → Option (Nat × Nat)) : List (Nat × Operand) → List (Nat × Nat × PO) → Bool
  | [], [] => true
  | (i, x) :: l, (off, n, y) :: m => (place i == some (off, n)) && chkPO x y && decide (0 < n) && chkParts place l m
  | _, _ => false
theorem fill_reads (h : Sim O w0 A0 β s (tmf a) w) (place : Nat → Option (Nat × Nat)) : ∀ (ps : List (Nat × Operand)) (qs : List (Nat × Nat × PO)) (vs : List (Nat × Nat × CV)) (cells : Array Value) (z z' : List CV),
    chkParts place ps qs = true → partsC s qs = some vs → Reads w (Nn O β s.bx) cells z → (∀ c ∈ z, c.one = true) → fillC z vs = some z' →
    ∃ cells', Instr.fill place cells (ps.map fun p => (p.1, a.eval p.2)) = some cells' ∧ Reads w (Nn O β s.bx) cells' z' ∧ ∀ c ∈ z', c.one = true
  | [], [], vs, cells, z, z', _, hp, hr, h1, hf => by
    obtain rfl := Option.some.inj hp
    obtain rfl := Option.some.inj hf
    exact ⟨cells, rfl, hr, h1⟩
  | [], _ :: _, _, _, _, _, hc, _, _, _, _ => by simp [chkParts] at hc
  | _ :: _, [], _, _, _, _, hc, _, _, _, _ => by simp [chkParts] at hc
  | (i, x) :: ps, (off, n, y) :: qs, vs, cells, z, z', hc, hp, hr, h1, hf => by
    simp only [chkParts, Bool.and_eq_true, beq_iff_eq, decide_eq_true_eq] at hc
    obtain ⟨⟨⟨hpl, hx⟩, hn⟩, hrest⟩ := hc
    simp only [partsC] at hp
    split at hp
    · rename_i c hcv
      cases hpr : partsC s qs with
      | none => rw [hpr] at hp; cases hp
      | some vs' =>
        rw [hpr] at hp
        obtain rfl := Option.some.inj hp
        simp only [fillC] at hf
        split at hf
        · rename_i hlen
          obtain ⟨rfl, hlen⟩ := hlen
          have hV := evc_V h hx hcv
          obtain ⟨hsz, hr'⟩ := hr.write hV hn hlen
          obtain ⟨cells', hf', hr'', h1'⟩ := fill_reads h place ps qs vs' _ _ z' hrest hpr hr' (by
            intro q hq
            simp only [spl, List.mem_append] at hq
            rcases hq with hq | hq | hq
            · exact h1 q (List.mem_of_mem_take hq)
            · exact (hV.cells hn).2.1 q hq
            · exact h1 q (List.mem_of_mem_drop hq)) hf
          refine ⟨cells', ?_, hr'', h1'⟩
          simp only [List.map_cons, Instr.fill, hpl]
          rw [if_neg (by rw [hsz, hr.len]; simp; omega)]
          exact hf'
        · cases hf
    · cases hp
theorem run_mapM {α γ : Type} (f : α → Sem γ) (g : α → γ) : ∀ (l : List α), (∀ x ∈ l, (f x).run P w = .ok (g x) w) → (l.mapM f).run P w = .ok (l.map g) w
  | [], _ => by simp
  | x :: l, h => by
    rw [List.mapM_cons]
    simp only [Sem.run_bind, h x (by simp), Result.andThen_ok, run_mapM f g l (fun y hy => h y (by simp [hy])), Sem.run_pure, List.map_cons]
theorem ok_build {o : Oper} {t : TypeId} {parts : Array (Nat × Operand)} {z : List CV} {qs : List (Nat × Nat × PO)} {i : TypeInfo} {zv : Value} (ho : o.op = .build t parts) (h : Sim O w0 A0 β s (tmf a) w) (hd : dstOk o.dst a.tmps.size)
    (hi : P.info? t = some i) (hz : i.zero = some zv) (hzc : chkL zv.cells.toList z = true)
    (hk : (∃ fs : Array Field, P.underlying t = some (.struct fs) ∧ (∀ f ∈ fs.toList, ∃ j, P.info? f.type = some j) ∧ chkParts (fun k => (fs[k]?).map fun f => (f.offset, P.cellsOf f.type)) parts.toList qs = true) ∨
      (∃ n e j, P.underlying t = some (.array n e) ∧ P.info? e = some j ∧ chkParts (fun k => some (k * j.size, j.size)) parts.toList qs = true))
    {s' : PS} (hs : pstep o.dst s (.build z qs) = some s') : Does P o O A0 w0 a w s' := by
  simp only [pstep] at hs
  split at hs
  · rename_i vs hvs
    cases hf : fillC z vs with
    | none => rw [hf] at hs; cases hs
    | some z' =>
      rw [hf] at hs
      obtain rfl := Option.some.inj hs
      obtain ⟨hl, h1, hV⟩ := chkL_V (w := w) (N := Nn O β s.bx) hzc
      have hr : Reads w (Nn O β s.bx) zv.cells z := ⟨by simpa using hl, fun k hk hk' => by have := hV k (by simpa using hk) hk'; simpa using this⟩
      have hp : (parts.map fun p => (p.1, a.eval p.2)).toList = parts.toList.map fun p => (p.1, a.eval p.2) := by simp
      rcases hk with ⟨fs, hu, hfs, hch⟩ | ⟨n, e, j, hu, hj, hch⟩
      · obtain ⟨cells', hfill, hr', h1'⟩ := fill_reads h _ parts.toList qs vs zv.cells z z' hch hvs hr h1 hf
        refine Does.val h hd (v := .agg cells') ?_ (V.agg _ _ hr'.len h1' hr'.get)
        have hm : (fs.mapM fun f => do pure (f.offset, ← sizeOf f.type) : Sem (Array (Nat × Nat))).run P w = .ok (fs.map fun f => (f.offset, P.cellsOf f.type)) w := by
          rw [Array.mapM_eq_mapM_toList, Sem.run_map, run_mapM (P := P) (w := w) _ (fun f : Field => (f.offset, P.cellsOf f.type)) fs.toList (fun f hf => by
            obtain ⟨j, hj⟩ := hfs f hf
            simp [Sem.run_bind, sizeOf, typeInfo, hj, Program.cellsOf])]
          simp only [Result.andThen_ok]
          congr 1
          exact Array.ext' (by simp)
        have hg : ∀ k : Nat, (fs.map fun f => (f.offset, P.cellsOf f.type))[k]? = (fs[k]?).map fun f => (f.offset, P.cellsOf f.type) := by intro k; simp
        unfold execOp
        simp only [ho, Instr.build, zeroValue, typeInfo, program, Sem.run_bind, Sem.run, hi, hz, Result.andThen_ok, Sem.run_pure, run_underlying hu, hm, hg, hp, hfill]
      · obtain ⟨cells', hfill, hr', h1'⟩ := fill_reads h _ parts.toList qs vs zv.cells z z' hch hvs hr h1 hf
        refine Does.val h hd (v := .agg cells') ?_ (V.agg _ _ hr'.len h1' hr'.get)
        unfold execOp
        simp only [ho, Instr.build, zeroValue, typeInfo, program, sizeOf, Sem.run_bind, Sem.run, hi, hz, hj, Result.andThen_ok, Sem.run_pure, run_underlying hu, hp, hfill]
  · cases hs
end
end Go.Pl
/-
  EACH OPERATION, THE LAST: slices that are made and that grow. My own work.
-/
namespace Go.Pl
open Go
set_option linter.unusedVariables false
section
variable {O : Nat → Prop} {A0 : Lent} {w0 w : World} {β : Bt} {s : PS} {a : Act} {P : Program}
theorem Sim.grow {tm : Nat → Value} (h : Sim O w0 A0 β s tm w) {w' : World} (hos : w'.os = w.os) (htape : w'.tape = w.tape) (hout : w'.output = w.output) (hsize : w.heap.size ≤ w'.heap.size)
    (hk : ∀ b, b < w.heap.size → w'.heap[b]? = w.heap[b]?) : Sim O w0 A0 β s tm w' := by
  have e : Ext w (Nn O β s.bx) w' (Nn O β s.bx) := ⟨hsize, fun b hb _ => hk b hb, fun b _ h => h⟩
  refine ⟨hos.trans h.os, htape.trans h.tape, hout.trans h.output, Nat.le_trans h.size hsize, fun b hb hn => ?_, fun i => ?_, fun d => ?_, h.inj, fun d p ho hp => ?_, h.outer, fun d ps hd => ?_, h.still⟩
  · rw [hk b (Nat.lt_of_lt_of_le hb h.size)]; exact h.keep b hb hn
  · exact (h.temps i).change e fun d => Compat.same fun q n ho hq hw => hw.of_eq (hk _ hw.lt)
  · have hb := h.boxes d
    cases hst : (s.bx d).st with
    | var cs =>
      rw [hst] at hb
      obtain ⟨b, base, hp, ho, hc⟩ := hb
      exact ⟨b, base, hp, ho.of_eq (hk _ ho.lt), hc.ext e (hk _ ho.lt)⟩
    | vp cs => trivial
    | sl sz es =>
      rw [hst] at hb
      refine ⟨hb.1, ?_⟩
      rcases hb.2 with hb | ⟨b, hp, ho, hc⟩
      · exact .inl hb
      · exact .inr ⟨b, hp, ho.of_eq (hk _ ho.lt), fun i hi => (hc i hi).ext e (hk _ ho.lt)⟩
    | dead => trivial
  · have := h.out d p ho hp
    exact ⟨this.1, Nat.lt_of_lt_of_le this.2.1 hsize, this.2.2⟩
  · obtain ⟨b, base, hp, ho, hc⟩ := h.vps d ps hd
    exact ⟨b, base, hp, ho.of_eq (hk _ ho.lt), hc.change e (fun d => Compat.same fun q n ho hq hw => hw.of_eq (hk _ hw.lt)) (hk _ ho.lt)⟩
theorem Sim.notNew {tm : Nat → Value} (h : Sim O w0 A0 β s tm w) {b : Nat} (hb : w.heap.size ≤ b) : ¬ Nn O β s.bx b := by
  rintro (hn | ⟨d, base, ho, hp⟩)
  · have := (h.outer b hn).1; have := h.size; omega
  · have := (h.out d _ ho hp).2.1; simp at this; omega
structure Flat (w : World) (N : Nat → Prop) (arr : Array Value) (sz : Nat) (es : List (List CV)) : Prop where
  size : es.length * sz ≤ arr.size
  len : ∀ e ∈ es, e.length = sz
  one : ∀ e ∈ es, ∀ c ∈ e, c.one = true
  get : ∀ (i j : Nat) (hi : i < es.length) (hj : j < es[i].length), ∃ v, arr[i * sz + j]? = some v ∧ V w N v es[i][j]
theorem Flat.ext {w w' : World} {N N' : Nat → Prop} {arr : Array Value} {sz : Nat} {es : List (List CV)} (h : Flat w N arr sz es) (e : Ext w N w' N') : Flat w' N' arr sz es :=
  ⟨h.size, h.len, h.one, fun i j hi hj => by obtain ⟨v, hv, hV⟩ := h.get i j hi hj; exact ⟨v, hv, hV.ext e⟩⟩
theorem mul_succ_le {i n sz : Nat} (h : i < n) : i * sz + sz ≤ n * sz := by
  have := Nat.mul_le_mul_right sz h
  rw [Nat.succ_mul] at this
  exact this
theorem Flat.closed {N : Nat → Prop} {arr : Array Value} {sz b cap : Nat} {el : TypeId} {es : List (List CV)} (h : Flat w N arr sz es) (hb : w.heap[b]? = some (.cells arr el (0, 0))) (hN : ¬ N b) (hc : es.length ≤ cap) :
    V w N (.slice (some ⟨b, 0, none⟩) es.length cap) (.sl es) := by
  have hlt : b < w.heap.size := (Array.getElem?_eq_some_iff.1 hb).1
  refine V.sl b 0 cap sz es (fun i j => arr.getD (i * sz + j) undef) hlt hN h.len hc h.one ?_ ?_
  · intro i j hi hj
    obtain ⟨v, hv, hV⟩ := h.get i j hi hj
    simp only [World.cell?, hb, Nat.zero_add, Option.isSome_none, Bool.false_eq_true, if_false, Array.getD_eq_getD_getElem?, hv, Option.getD_some]
  · intro i j hi hj
    obtain ⟨v, hv, hV⟩ := h.get i j hi hj
    simpa only [Array.getD_eq_getD_getElem?, hv, Option.getD_some] using hV
theorem Flat.box {N : Nat → Prop} {arr : Array Value} {sz b : Nat} {el : TypeId} {es : List (List CV)} (h : Flat w N arr sz es) (hb : w.heap[b]? = some (.cells arr el (0, 0))) : BR w N (some (b, 0)) (.sl sz es) := by
  refine ⟨h.len, .inr ⟨b, rfl, ⟨arr, el, hb, h.size⟩, fun i hi => ⟨h.one _ (List.getElem_mem hi), fun j hj => ?_⟩⟩⟩
  obtain ⟨v, hv, hV⟩ := h.get i j hi hj
  exact ⟨v, by simp only [World.cell?, hb, Option.isSome_none, Bool.false_eq_true, if_false, hv], hV⟩
theorem Flat.of_box {N : Nat → Prop} {sz b : Nat} {es : List (List CV)} (h : BR w N (some (b, 0)) (.sl sz es)) : ∃ arr el, w.heap[b]? = some (.cells arr el (0, 0)) ∧ Flat w N arr sz es := by
  obtain ⟨hz, h⟩ := h
  rcases h with ⟨hn, _⟩ | ⟨b', hp, ⟨arr, el, hb, hsz⟩, hc⟩
  · cases hn
  · obtain ⟨rfl, _⟩ := Prod.mk.inj (Option.some.inj hp)
    refine ⟨arr, el, hb, hsz, hz, fun e he c hce => ?_, fun i j hi hj => ?_⟩
    · obtain ⟨i, hi, rfl⟩ := List.mem_iff_getElem.1 he
      exact (hc i hi).1 c hce
    · obtain ⟨v, hv, hV⟩ := (hc i hi).2 j hj
      exact ⟨v, by simpa [World.cell?, hb] using hv, hV⟩
def chkPartsS : List (Nat × Operand) → List (Nat × PO) → Bool
  | [], [] => true
  | (i, x) :: l, (j, y) :: m => decide (i = j) && chkPO x y && chkPartsS l m
  | _, _ => false
theorem fillS_flat (h : Sim O w0 A0 β s (tmf a) w) {sz : Nat} (hsz : 0 < sz) : ∀ (ps : List (Nat × Operand)) (qs : List (Nat × PO)) (vs : List (Nat × CV)) (cells : Array Value) (z z' : List (List CV)),
    chkPartsS ps qs = true → partsS s qs = some vs → Flat w (Nn O β s.bx) cells sz z → fillS z vs = some z' →
    ∃ cells', Instr.fill (fun i => some (i * sz, sz)) cells (ps.map fun p => (p.1, a.eval p.2)) = some cells' ∧ Flat w (Nn O β s.bx) cells' sz z' ∧ z'.length = z.length ∧ cells'.size = cells.size
  | [], [], vs, cells, z, z', _, hp, hr, hf => by
    obtain rfl := Option.some.inj hp
    obtain rfl := Option.some.inj hf
    exact ⟨cells, rfl, hr, rfl, rfl⟩
  | [], _ :: _, _, _, _, _, hc, _, _, _ => by simp [chkPartsS] at hc
  | _ :: _, [], _, _, _, _, hc, _, _, _ => by simp [chkPartsS] at hc
  | (i, x) :: ps, (i', y) :: qs, vs, cells, z, z', hc, hp, hr, hf => by
    simp only [chkPartsS, Bool.and_eq_true, decide_eq_true_eq] at hc
    obtain ⟨⟨rfl, hx⟩, hrest⟩ := hc
    simp only [partsS] at hp
    split at hp
    · rename_i c hcv
      cases hpr : partsS s qs with
      | none => rw [hpr] at hp; cases hp
      | some vs' =>
        rw [hpr] at hp
        obtain rfl := Option.some.inj hp
        simp only [fillS] at hf
        split at hf
        · rename_i e he
          split at hf
          · rename_i hlen
            obtain ⟨hi, rfl⟩ := List.getElem?_eq_some_iff.1 he
            have hei : z[i].length = sz := hr.len _ (List.getElem_mem hi)
            have hV := evc_V h hx hcv
            obtain ⟨k1, k2, k3⟩ := hV.cells (by omega)
            have hmul := mul_succ_le (sz := sz) hi
            have hle : i * sz + (a.eval x).cells.size ≤ cells.size := by have := hr.size; omega
            obtain ⟨q1, q2⟩ := foldSetA (i * sz) (a.eval x).cells cells hle
            have hr' : Flat w (Nn O β s.bx) ((a.eval x).cells.zipIdx.foldl (fun cs (p : Value × Nat) => cs.setIfInBounds (i * sz + p.2) p.1) cells) sz (z.set i c.cells) := by
              refine ⟨by rw [q1, List.length_set]; exact hr.size, ?_, ?_, ?_⟩
              · intro e he
                rcases List.mem_or_eq_of_mem_set he with he | rfl
                · exact hr.len e he
                · omega
              · intro e he
                rcases List.mem_or_eq_of_mem_set he with he | rfl
                · exact hr.one e he
                · exact k2
              · intro p q hp hq
                have hp' : p < z.length := by simpa using hp
                by_cases e : p = i
                · subst e
                  simp only [List.getElem_set_self] at hq ⊢
                  refine ⟨(a.eval x).cells[q]'(by omega), ?_, k3 q (by omega) hq⟩
                  rw [q2, if_pos (by omega), show p * sz + q - p * sz = q by omega]
                  simp [show q < (a.eval x).cells.size by omega]
                · simp only [List.getElem_set_ne (Ne.symm e)] at hq ⊢
                  obtain ⟨v, hv, hV'⟩ := hr.get p q hp' hq
                  refine ⟨v, ?_, hV'⟩
                  have hzp : z[p].length = sz := hr.len _ (List.getElem_mem hp')
                  rw [q2, if_neg ?_]
                  · exact hv
                  · rcases Nat.lt_or_gt_of_ne e with hlt | hgt
                    · have := mul_succ_le (sz := sz) hlt; omega
                    · have := mul_succ_le (sz := sz) hgt; omega
            obtain ⟨cells', hf', hr'', hl', hs'⟩ := fillS_flat h hsz ps qs vs' _ _ z' hrest hpr hr' hf
            refine ⟨cells', ?_, hr'', by rw [hl', List.length_set], by rw [hs', q1]⟩
            simp only [List.map_cons, Instr.fill]
            rw [if_neg (by simp; omega)]
            exact hf'
          · cases hf
        · cases hf
    · cases hp
theorem zero_flat {N : Nat → Prop} {zc : List CV} {zv : Value} {sz len : Nat} (hc : chkL zv.cells.toList zc = true) (hl : zc.length = sz) (hsz : 0 < sz) :
    Flat w N ((Array.range (len * sz)).map fun k => zv.cells[k % zv.cells.size]!) sz (List.replicate len zc) := by
  obtain ⟨h1, h2, h3⟩ := chkL_V (w := w) (N := N) hc
  have hs : zv.cells.size = sz := by simp at h1; omega
  refine ⟨by simp, fun e he => by rw [List.eq_of_mem_replicate he]; exact hl, fun e he => by rw [List.eq_of_mem_replicate he]; exact h2, fun i j hi hj => ?_⟩
  simp only [List.getElem_replicate] at hj ⊢
  have hi' : i < len := by simpa using hi
  have hmul := mul_succ_le (sz := sz) hi'
  refine ⟨zv.cells[j]'(by omega), ?_, by have := h3 j (by simp; omega) hj; simpa using this⟩
  simp only [Array.getElem?_map, Array.getElem?_range]
  rw [if_pos (by omega)]
  simp only [Option.map_some, hs]
  rw [show (i * sz + j) % sz = j by rw [Nat.add_comm, Nat.add_mul_mod_self_right, Nat.mod_eq_of_lt (by omega)]]
  rw [getElem!_pos zv.cells j (by omega)]
theorem run_buildSlice (h : Sim O w0 A0 β s (tmf a) w) {o : Oper} {t e : TypeId} {len sz : Nat} {parts : Array (Nat × Operand)} {zc : List CV} {qs : List (Nat × PO)} {i : TypeInfo} {zv : Value} (ho : o.op = .buildSlice t len parts)
    (hu : P.underlying t = some (.slice e)) (hi : P.info? e = some i) (hisz : i.size = sz) (hsz : 0 < sz) (hbig : len * sz ≤ 2 ^ 24) (hz : i.zero = some zv) (hzc : chkL zv.cells.toList zc = true) (hzl : zc.length = sz) (hp : chkPartsS parts.toList qs = true)
    {vs : List (Nat × CV)} {es : List (List CV)} (hvs : partsS s qs = some vs) (hf : fillS (List.replicate len zc) vs = some es) :
    ∃ cells, (execOp a.eval o).run P w = .ok (.value (.slice (some ⟨w.heap.size, 0, none⟩) es.length es.length)) (w.alloc (.cells cells e)) ∧ Flat w (Nn O β s.bx) cells sz es ∧ cells.size = es.length * sz := by
  obtain ⟨cells, hfill, hflat, hl, hsize⟩ := fillS_flat h hsz parts.toList qs vs _ _ es hp hvs (zero_flat (len := len) hzc hzl hsz) hf
  have hlen : es.length = len := by simpa using hl
  have hpl : (parts.map fun p => (p.1, a.eval p.2)).toList = parts.toList.map fun p => (p.1, a.eval p.2) := by simp
  refine ⟨cells, ?_, hflat, by rw [hsize, hlen]; simp⟩
  unfold execOp
  by_cases h0 : len * sz = 0
  · have hnil : ∀ (f : Nat → Value), (Array.range 0).map f = #[] := fun f => by simp
    rw [h0, hnil] at hfill
    simp only [ho, Instr.buildSlice, sizeOf, typeInfo, program, Sem.run_bind, Sem.run, run_underlying hu, hi, hisz, Result.andThen_ok, Sem.run_pure, h0, if_true, hnil, hpl, hfill, newRow, newObj, hlen]
    rfl
  · simp only [ho, Instr.buildSlice, sizeOf, typeInfo, zeroValue, program, Sem.run_bind, Sem.run, run_underlying hu, hi, hisz, Result.andThen_ok, Sem.run_pure, if_neg (show ¬ len * sz > 2 ^ 24 by omega), if_neg h0, hz, hpl, hfill, newRow, newObj, hlen]
    rfl
theorem ok_bsl {o : Oper} {t e : TypeId} {len sz : Nat} {parts : Array (Nat × Operand)} {zc : List CV} {qs : List (Nat × PO)} {i : TypeInfo} {zv : Value} {own : Bool} (ho : o.op = .buildSlice t len parts) (h : Sim O w0 A0 β s (tmf a) w) (hd : dstOk o.dst a.tmps.size)
    (hu : P.underlying t = some (.slice e)) (hi : P.info? e = some i) (hisz : i.size = sz) (hsz : 0 < sz) (hbig : len * sz ≤ 2 ^ 24) (hz : i.zero = some zv) (hzc : chkL zv.cells.toList zc = true) (hzl : zc.length = sz) (hp : chkPartsS parts.toList qs = true)
    {s' : PS} (hs : pstep o.dst s (.bsl sz len zc qs own) = some s') : Does P o O A0 w0 a w s' := by
  simp only [pstep] at hs
  split at hs
  · rename_i vs hvs
    split at hs
    · rename_i es hf
      obtain rfl := Option.some.inj hs
      obtain ⟨cells, hrun, hflat, hcs⟩ := run_buildSlice h ho hu hi hisz hsz hbig hz hzc hzl hp hvs hf
      have hk : ∀ b, b < w.heap.size → (w.alloc (.cells cells e)).heap[b]? = w.heap[b]? := fun b hb => by
        show (w.heap.push _)[b]? = _; rw [Array.getElem?_push, if_neg (by omega)]
      have hsize : (w.alloc (.cells cells e)).heap.size = w.heap.size + 1 := Array.size_push _
      have hb : (w.alloc (.cells cells e)).heap[w.heap.size]? = some (.cells cells e (0, 0)) := by
        show (w.heap.push _)[w.heap.size]? = _; simp
      have hg := h.grow (w' := w.alloc (.cells cells e)) rfl rfl rfl (by omega) hk
      have hN : ¬ Nn O β s.bx w.heap.size := h.notNew (Nat.le_refl _)
      refine ⟨_, _, _, β, hrun, .inl rfl, hg.putO _ hd _ _ ?_⟩
      exact (hflat.ext ⟨by omega, fun b hb _ => hk b hb, fun b _ h => h⟩).closed hb hN (Nat.le_refl _)
    · rename_i es d hf hdst
      obtain rfl := Option.some.inj hs
      obtain ⟨cells, hrun, hflat, hcs⟩ := run_buildSlice h ho hu hi hisz hsz hbig hz hzc hzl hp hvs hf
      have hb : (w.alloc (.cells cells e)).heap[w.heap.size]? = some (.cells cells e (0, 0)) := by
        show (w.heap.push _)[w.heap.size]? = _; simp
      refine ⟨_, _, _, fun i => if i = d then some (w.heap.size, 0) else β i, hrun, .inl rfl, ?_⟩
      rw [hdst]
      refine sim_new h (hd _ hdst) cells e _ _ _ (Nat.lt_succ_self _) ?_ ?_
      · intro N he
        exact (hflat.ext he).box hb
      · intro N β' bx' hβ hbx
        refine ⟨⟨by rw [hbx]; exact Nat.le_refl _, rfl⟩, fun _ sz' es' hst => ⟨rfl, .inr ⟨w.heap.size, es.length, hβ, rfl, Nat.le_refl _, cells, e, hb, ?_⟩⟩⟩
        rw [hbx] at hst
        cases hst
        omega
    · cases hs
  · cases hs
theorem ok_own0 {o : Oper} {x : Operand} {sz d : Nat} (ho : o.op = .move x ∨ o.op = .assign x) (hx : chkPO x (.k (.sl [])) = true) (h : Sim O w0 A0 β s (tmf a) w) (hdst : o.dst = some d) (hd : d < a.tmps.size)
    {s' : PS} (hs : pstep o.dst s (.own0 sz) = some s') : Does P o O A0 w0 a w s' := by
  simp only [pstep, hdst] at hs
  obtain rfl := Option.some.inj hs
  have hv : a.eval x = .slice none 0 0 := by
    cases x with
    | const v =>
      simp only [chkPO, chkV] at hx
      cases v <;> simp [chk1] at hx ⊢
      rename_i p l c
      cases p <;> cases l <;> cases c <;> simp [chk1] at hx ⊢ <;> simp [Act.eval]
    | tmp t => cases hx
    | global g => cases hx
    | func f => cases hx
  refine ⟨.value (a.eval x), a.eval x, w, fun i => if i = d then none else β i, ?_, .inl rfl, ?_⟩
  · unfold execOp
    rcases ho with ho | ho <;> simp only [ho, Sem.run_pure]
  · rw [hdst, tmf_put _ hd, hv]
    refine (h.change (w' := w) d none ⟨(s.bx d).ver + 1, .sl sz []⟩ rfl rfl rfl (Nat.le_refl _) (fun b _ _ => rfl) (.inl (Nat.lt_succ_self _)) (fun p _ hp => by cases hp) ⟨by simp, .inl ⟨rfl, rfl⟩⟩).put d _ _ ?_
    exact ⟨⟨by simp [PS.box], rfl⟩, fun _ sz' es' hs => ⟨rfl, .inl ⟨by simp, rfl, rfl⟩⟩⟩
end
end Go.Pl
/-
  append: to a slice of the frame's own. My own work.
-/
namespace Go.Pl
open Go
set_option linter.unusedVariables false
section
variable {O : Nat → Prop} {A0 : Lent} {w0 w : World} {β : Bt} {s : PS} {a : Act} {P : Program}
theorem run_first {N : Nat → Prop} {v : Value} {ys : List (List CV)} {sz : Nat} (hV : V w N v (.sl ys)) (hsz : 0 < sz) (hw : ∀ e ∈ ys, e.length = sz) :
    (∃ n c, ∃ b, v = .slice b n c ∧ n = ys.length) ∧ ∃ cells, (Builtin.firstCells sz ys.length v).run P w = .ok cells w ∧ Flat w N cells sz ys ∧ cells.size = ys.length * sz ∧ ∀ x ∈ cells.toList, x.oneCell' = true := by
  cases hV with
  | nil => exact ⟨⟨0, 0, none, rfl, rfl⟩, #[], rfl, ⟨by simp, by simp, by simp, fun i j hi => by simp at hi⟩, by simp, by simp⟩
  | emp b cap => exact ⟨⟨0, cap, some b, rfl, rfl⟩, #[], by simp [Builtin.firstCells, loadCells, loadCellsFrom, Sem.run_pure], ⟨by simp, by simp, by simp, fun i j hi => by simp at hi⟩, by simp, by simp⟩
  | sl b off cap sz' _ c hb hN hz hcap h1 hread hVV =>
    refine ⟨⟨_, _, _, rfl, rfl⟩, _, run_loadCells (P := P) w ⟨b, off, none⟩ (ys.length * sz) (fun j => c (j / sz) (j % sz)) ?_, ?_, by simp, ?_⟩
    · intro j hj
      have hi : j / sz < ys.length := by rw [Nat.div_lt_iff_lt_mul hsz]; exact hj
      have hl : ys[j / sz].length = sz := hw _ (List.getElem_mem hi)
      have := hread (j / sz) (j % sz) hi (by rw [hl]; exact Nat.mod_lt _ hsz)
      rw [Addr.add_mid, ← this]
      have hzz : sz' = sz := by rw [← hz _ (List.getElem_mem hi), hl]
      rw [hzz, Nat.mul_comm (j / sz) sz, Nat.div_add_mod]
    · refine ⟨by simp, hw, h1, fun i j hi hj => ⟨c i j, ?_, hVV i j hi hj⟩⟩
      have hl : ys[i].length = sz := hw _ (List.getElem_mem hi)
      have hmul := mul_succ_le (sz := sz) hi
      simp only [List.getElem?_toArray, List.getElem?_map, List.getElem?_range (show i * sz + j < ys.length * sz by omega), Option.map_some]
      rw [show (i * sz + j) / sz = i by rw [Nat.add_comm, Nat.add_mul_div_right _ _ hsz, Nat.div_eq_of_lt (by omega)]; omega, show (i * sz + j) % sz = j by rw [Nat.add_comm, Nat.add_mul_mod_self_right, Nat.mod_eq_of_lt (by omega)]]
    · intro x hx
      simp only [List.mem_map, List.mem_range] at hx
      obtain ⟨j, hj, rfl⟩ := hx
      have hi : j / sz < ys.length := by rw [Nat.div_lt_iff_lt_mul hsz]; exact hj
      have hl : ys[j / sz].length = sz := hw _ (List.getElem_mem hi)
      have hjj : j % sz < ys[j / sz].length := by rw [hl]; exact Nat.mod_lt _ hsz
      exact (hVV _ _ hi hjj).oneCell (h1 _ (List.getElem_mem hi) _ (List.getElem_mem hjj))
theorem Flat.append {N : Nat → Prop} {arr new : Array Value} {sz : Nat} {es ys : List (List CV)} (h : Flat w N arr sz es) (k : Flat w N new sz ys) (hn : new.size = ys.length * sz) {out : Array Value}
    (hs : es.length * sz + ys.length * sz ≤ out.size) (h1 : ∀ m, m < es.length * sz → out[m]? = arr[m]?) (h2 : ∀ m, m < ys.length * sz → out[es.length * sz + m]? = new[m]?) : Flat w N out sz (es ++ ys) := by
  refine ⟨by rw [List.length_append, Nat.add_mul]; exact hs, ?_, ?_, ?_⟩
  · intro e he
    rcases List.mem_append.1 he with he | he
    · exact h.len e he
    · exact k.len e he
  · intro e he
    rcases List.mem_append.1 he with he | he
    · exact h.one e he
    · exact k.one e he
  · intro i j hi hj
    by_cases hie : i < es.length
    · have hg : (es ++ ys)[i] = es[i] := List.getElem_append_left hie
      have hj' : j < es[i].length := by rw [hg] at hj; exact hj
      obtain ⟨v, hv, hV⟩ := h.get i j hie hj'
      have hl : es[i].length = sz := h.len _ (List.getElem_mem hie)
      have := mul_succ_le (sz := sz) hie
      refine ⟨v, by rw [h1 _ (by omega)]; exact hv, ?_⟩
      simp only [hg]; exact hV
    · have hi' : i - es.length < ys.length := by rw [List.length_append] at hi; omega
      have hg : (es ++ ys)[i] = ys[i - es.length] := List.getElem_append_right (by omega)
      have hj' : j < ys[i - es.length].length := by rw [hg] at hj; exact hj
      obtain ⟨v, hv, hV⟩ := k.get (i - es.length) j hi' hj'
      have hl : ys[i - es.length].length = sz := k.len _ (List.getElem_mem hi')
      have := mul_succ_le (sz := sz) hi'
      refine ⟨v, ?_, ?_⟩
      · rw [show i * sz + j = es.length * sz + ((i - es.length) * sz + j) by rw [← Nat.add_assoc, ← Nat.add_mul]; congr 2; omega, h2 _ (by omega)]
        exact hv
      · simp only [hg]; exact hV
theorem growBy_le (n : Nat) : ∀ (r c : Nat), c ≤ 2 * n + 1024 → Builtin.growBy n r c ≤ 2 * n + 1024
  | 0, c, h => h
  | r + 1, c, h => by
    unfold Builtin.growBy
    split
    · exact h
    · exact growBy_le n r _ (by omega)
theorem nextslicecap_le {n c : Nat} (h : c < n) : Builtin.nextslicecap n c ≤ 2 * n + 1024 := by
  unfold Builtin.nextslicecap
  split
  · omega
  · split
    · omega
    · exact growBy_le n 4 c (by omega)
def Hdr (w : World) (p : Option (Nat × Nat)) (sz : Nat) (zs : List (List CV)) (v : Value) : Prop :=
  (p = none ∧ v = .slice none 0 0 ∧ zs = []) ∨ ∃ b cap, p = some (b, 0) ∧ v = .slice (some ⟨b, 0, none⟩) zs.length cap ∧ zs.length ≤ cap ∧ OwnB w b (cap * sz)
theorem Hdr.one {w : World} {p : Option (Nat × Nat)} {sz : Nat} {zs : List (List CV)} {v : Value} (h : Hdr w p sz zs v) : v.oneCell' = true := by
  rcases h with ⟨_, h, _⟩ | ⟨_, _, _, h, _⟩ <;> rw [h] <;> rfl
section
variable {t e e2 u ty : TypeId} {i : TypeInfo} {sz : Nat} {zv : Value}
theorem append_fit (hu : P.underlying t = some (.slice e)) (hu2 : P.underlying u = some (.slice e2)) (hi : P.info? e = some i) (hisz : i.size = sz)
    {base : Option Addr} {m cap n : Nat} {y : Value} {new : Array Value} (hl : (Builtin.lenOf y).run P w = .ok n w) (hf : (Builtin.firstCells sz n y).run P w = .ok new w) (hle : m + n ≤ cap) :
    (Builtin.append_ #[t, u] ty #[.slice base m cap, y]).run P w = match base with
      | none => .ok (.slice none (m + n) cap) w
      | some ad => ((storeCells (ad.add (m * sz)) new.toList).run P w).andThen fun _ w' => .ok (.slice (some ad) (m + n) cap) w' := by
  have hti : ∀ w : World, (typeInfo e).run P w = .ok i w := fun w => by simp [typeInfo, program, Sem.run, Sem.run_bind, hi]
  cases base <;> simp only [Builtin.append_, List.getElem?_toArray, List.getElem?_cons_zero, List.getElem?_cons_succ, Sem.run_bind, run_underlying hu, run_underlying hu2, Result.andThen_ok, sizeOf, hti, hisz, Sem.run_pure, Sem.run_ite, hl, hf,
    Bool.false_eq_true, if_false, Bool.not_false, if_true, if_pos hle]
theorem append_grow (hu : P.underlying t = some (.slice e)) (hu2 : P.underlying u = some (.slice e2)) (hi : P.info? e = some i) (hisz : i.size = sz) (hby : i.bytes ≤ 16384) (hby0 : i.bytes ≠ 0) (hz : i.zero = some zv)
    {base : Option Addr} {m cap n : Nat} {y : Value} {old new : Array Value} (hl : (Builtin.lenOf y).run P w = .ok n w) (hf : (Builtin.firstCells sz n y).run P w.drew = .ok new w.drew) (hfo : (Builtin.firstCells sz m (.slice base m cap)).run P w.drew = .ok old w.drew)
    (hle : ¬ m + n ≤ cap) (hmax : m + n ≤ maxGrow) :
    ∃ newCap, m + n ≤ newCap ∧ (Builtin.append_ #[t, u] ty #[.slice base m cap, y]).run P w =
      .ok (.slice (some ⟨w.heap.size, 0, none⟩) (m + n) newCap) (w.drew.alloc (.cells (old ++ new ++ Builtin.zeroCells zv.cells (newCap - (m + n))) e)) := by
  have hti : ∀ w : World, (typeInfo e).run P w = .ok i w := fun w => by simp [typeInfo, program, Sem.run, Sem.run_bind, hi]
  have hm : maxGrow = 4294967296 := rfl
  have hcap := nextslicecap_le (n := m + n) (c := cap) (by omega)
  have hbig : ¬ Builtin.nextslicecap (m + n) cap * i.bytes > 2 ^ 48 := by
    have : Builtin.nextslicecap (m + n) cap * i.bytes ≤ (2 * (m + n) + 1024) * 16384 := Nat.mul_le_mul hcap hby
    omega
  have hne : ¬ (((m + n : Nat) : Int) > IntKind.i64.max) := by
    simp [IntKind.max, IntKind.signed, IntKind.bits]; omega
  have hask : ∀ (k : Nat) (w : World), (askRoom k).run P w = .ok () w := fun k w => by
    unfold askRoom; split <;> rfl
  refine ⟨Question.cut (.appendCap (m + n) cap e) (w.tape w.drawn (.appendCap (m + n) cap e)), ?_, ?_⟩
  · simp only [Question.cut]; omega
  · have hch : (choose (.appendCap (m + n) cap e)).run P w = .ok (Question.cut (.appendCap (m + n) cap e) (w.tape w.drawn (.appendCap (m + n) cap e))) w.drew := rfl
    have hdrew : w.drew.heap.size = w.heap.size := rfl
    generalize Question.cut (.appendCap (m + n) cap e) (w.tape w.drawn (.appendCap (m + n) cap e)) = nc at hch ⊢
    simp only [Builtin.append_, List.getElem?_toArray, List.getElem?_cons_zero, List.getElem?_cons_succ, Sem.run_bind, run_underlying hu, run_underlying hu2, Result.andThen_ok, sizeOf, hti, hisz, Sem.run_pure, Sem.run_ite, hl, hfo, hf,
      Bool.false_eq_true, if_false, Bool.not_false, if_true, if_neg hle, hne, false_and, if_neg hbig, hch, hask, zeroValue, hz, newRow, run_newObj_alloc, hdrew]
end
theorem run_append {o : Oper} {c : Call} {t e e2 u : TypeId} {x y : Operand} {i : TypeInfo} {sz : Nat} {zv : Value} (ho : o.op = .call c) (hcal : c.callee = .builtin .append) (hargs : c.args = #[x, y]) (hty : c.argTypes = #[t, u])
    (hu : P.underlying t = some (.slice e)) (hu2 : P.underlying u = some (.slice e2)) (hi : P.info? e = some i) (hisz : i.size = sz) (hsz : 0 < sz) (hby : i.bytes ≤ 16384) (hby0 : i.bytes ≠ 0) (hz : i.zero = some zv) (hzs : zv.cells.size = sz)
    (h : Sim O w0 A0 β s (tmf a) w) {d ver : Nat} {es ys : List (List CV)} (hb : s.bx d = ⟨ver, .sl sz es⟩) (hx : Hdr w (β d) sz es (a.eval x)) (hy : V w (Nn O β s.bx) (a.eval y) (.sl ys)) (hr : es.length + ys.length ≤ maxGrow) (hw : ∀ e ∈ ys, e.length = sz) :
    ∃ v w' p', (execOp a.eval o).run P w = .ok (.value v) w' ∧ Hdr w' p' sz (es ++ ys) v ∧ Sim O w0 A0 (fun i => if i = d then p' else β i) (s.box d ⟨ver + 1, .sl sz (es ++ ys)⟩) (tmf a) w' := by
  obtain ⟨⟨n2, c2, b2, hyv, hn2⟩, new, hnew, hflat, hns, hone⟩ := run_first (P := P) hy hsz hw
  have howned : (s.bx d).st.owned = true := by rw [hb]; rfl
  have hBR := h.boxes d
  rw [hb] at hBR
  have hlen2 : (Builtin.lenOf (a.eval y)).run P w = .ok ys.length w := by rw [hyv, hn2]; rfl
  obtain ⟨base, cap, he⟩ : ∃ base cap, a.eval x = .slice base es.length cap := by
    rcases hx with ⟨_, hv, rfl⟩ | ⟨b, cap, _, hv, _, _⟩
    · exact ⟨_, _, hv⟩
    · exact ⟨_, _, hv⟩
  have hexec : ∀ r, (Builtin.append_ #[t, u] o.type #[.slice base es.length cap, a.eval y]).run P w = r → (execOp a.eval o).run P w = r.andThen fun v w' => .ok (.value v) w' := by
    intro r hr
    have hargs' : c.args.map a.eval = #[.slice base es.length cap, a.eval y] := by rw [hargs]; simp [he]
    unfold execOp
    simp only [ho, hcal, resolve, invoke, builtin, Sem.run_bind, Sem.run_pure, Result.andThen_ok, hargs', hty, hr]
  by_cases hfit : es.length + ys.length ≤ cap
  · have hrun := hexec _ (append_fit (ty := o.type) hu hu2 hi hisz (base := base) hlen2 hnew hfit)
    rcases hx with ⟨hp, hv, rfl⟩ | ⟨b, cap', hp, hv, hlc, hown⟩
    · -- nothing to nothing
      obtain ⟨rfl, _, rfl⟩ := Value.slice.inj (he.symm.trans hv)
      have hy0 : ys = [] := by simp at hfit; exact hfit
      subst hy0
      exact ⟨.slice none 0 0, w, none, hrun, .inl ⟨rfl, rfl, rfl⟩, h.change (w' := w) d none ⟨ver + 1, .sl sz []⟩ rfl rfl rfl (Nat.le_refl _) (fun b _ _ => rfl) (.inl (by rw [hb]; exact Nat.lt_succ_self _)) (fun p _ hp => by cases hp) ⟨by simp, .inl ⟨rfl, rfl⟩⟩⟩
    · obtain ⟨rfl, _, rfl⟩ := Value.slice.inj (he.symm.trans hv)
      rw [hp] at hBR
      obtain ⟨arr, el, hheap, hfe⟩ := Flat.of_box hBR
      obtain ⟨arr', el', hheap', hcsz⟩ := hown
      rw [hheap] at hheap'
      cases hheap'
      have hmulc : es.length * sz + ys.length * sz ≤ cap * sz := by rw [← Nat.add_mul]; exact Nat.mul_le_mul_right _ hfit
      have hst := run_storeCells_at (P := P) b (es.length * sz) el new.toList 0 arr w hheap (by simp; omega) hone
      simp only [Nat.add_zero, Array.length_toList] at hst
      simp only [Addr.add_mid, Nat.zero_add, hst, Result.andThen_ok] at hrun
      have hsz' : (arr.toList.take (es.length * sz) ++ new.toList ++ arr.toList.drop (es.length * sz + new.size)).toArray.size = arr.size := by simp; omega
      have hheap2 := setRow_heap w b arr (arr.toList.take (es.length * sz) ++ new.toList ++ arr.toList.drop (es.length * sz + new.size)).toArray el _ hheap
      refine ⟨_, _, some (b, 0), hrun, .inr ⟨b, cap, rfl, by rw [List.length_append], by rw [List.length_append]; exact hfit, _, el, hheap2, by rw [hsz']; exact hcsz⟩, ?_⟩
      refine h.change (w' := w.setRow b _) d (some (b, 0)) ⟨ver + 1, .sl sz (es ++ ys)⟩ rfl rfl rfl (by rw [setRow_size]; exact Nat.le_refl _) (fun k hk hne => setRow_other w b k _ (hne _ howned hp)) (.inl (by rw [hb]; exact Nat.lt_succ_self _))
        (fun p _ hq => .inl ⟨howned, (b, 0), hp, by have := Option.some.inj hq; rw [← this]⟩) ?_
      refine Flat.box ?_ hheap2
      have hext : Ext w (Nn O β s.bx) (w.setRow b (arr.toList.take (es.length * sz) ++ new.toList ++ arr.toList.drop (es.length * sz + new.size)).toArray) (Nn O (fun i => if i = d then some (b, 0) else β i) (fun i => if i = d then ⟨ver + 1, .sl sz (es ++ ys)⟩ else s.bx i)) := by
        refine ⟨by rw [setRow_size]; exact Nat.le_refl _, fun q hq hN => setRow_other w b q _ (fun e => hN (.inr ⟨d, 0, howned, by rw [hp, e]⟩)), fun q hq hN => ?_⟩
        rcases hN with hN | ⟨r, base', hr, hr'⟩
        · exact .inl hN
        · by_cases e : r = d
          · subst e; simp only [if_true] at hr'; exact .inr ⟨r, base', howned, by rw [hp]; exact hr'⟩
          · simp only [if_neg e] at hr hr'; exact .inr ⟨r, base', hr, hr'⟩
      refine (hfe.ext hext).append (hflat.ext hext) hns (by rw [hsz']; omega) ?_ ?_
      · intro m hm
        simp only [List.getElem?_toArray]
        rw [List.append_assoc, List.getElem?_append_left (by simp; omega), List.getElem?_take, if_pos hm, Array.getElem?_toList]
      · intro m hm
        simp only [List.getElem?_toArray]
        rw [List.append_assoc, List.getElem?_append_right (by simp; omega), List.getElem?_append_left (by simp; omega)]
        simp only [List.length_take, Array.length_toList, Array.getElem?_toList]
        congr 1
        omega
  · -- a new row
    have hx' := hx
    have hold : ∃ old, (Builtin.firstCells sz es.length (.slice base es.length cap)).run P w.drew = .ok old w.drew ∧ Flat w (Nn O β s.bx) old sz es ∧ old.size = es.length * sz := by
      rcases hx with ⟨hp, hv, rfl⟩ | ⟨b, cap', hp, hv, hlc, hown⟩
      · obtain ⟨rfl, _, rfl⟩ := Value.slice.inj (he.symm.trans hv)
        exact ⟨#[], rfl, ⟨by simp, by simp, by simp, fun i j hi => by simp at hi⟩, by simp⟩
      · obtain ⟨rfl, _, rfl⟩ := Value.slice.inj (he.symm.trans hv)
        rw [hp] at hBR
        obtain ⟨arr, el, hheap, hfe⟩ := Flat.of_box hBR
        have hcell : ∀ j, j < es.length * sz → w.drew.cell? ((⟨b, 0, none⟩ : Addr).add j) = some (arr.getD j undef) := by
          intro j hj
          have hj' : j < arr.size := by have := hfe.size; omega
          have hheap' : w.drew.heap[b]? = some (.cells arr el (0, 0)) := hheap
          rw [Addr.add_mid]
          simp only [World.cell?, hheap', Nat.zero_add, Option.isSome_none, Bool.false_eq_true, if_false]
          simp [hj']
        refine ⟨_, run_loadCells (P := P) w.drew ⟨b, 0, none⟩ (es.length * sz) (fun j => arr.getD j undef) hcell, ?_, by simp⟩
        refine ⟨by simp, hfe.len, hfe.one, fun p q hp' hq => ?_⟩
        obtain ⟨v, hv, hV⟩ := hfe.get p q hp' hq
        have hl : es[p].length = sz := hfe.len _ (List.getElem_mem hp')
        have := mul_succ_le (sz := sz) hp'
        refine ⟨v, ?_, hV⟩
        simp only [List.getElem?_toArray, List.getElem?_map, List.getElem?_range (show p * sz + q < es.length * sz by omega), Option.map_some, Array.getD_eq_getD_getElem?, hv, Option.getD_some]
    obtain ⟨old, hold, hfo, hos⟩ := hold
    have hd : Sim O w0 A0 β s (tmf a) w.drew := h.grow rfl rfl rfl (Nat.le_refl _) fun _ _ => rfl
    have hydrew : V w.drew (Nn O β s.bx) (a.eval y) (.sl ys) := V.ext (w := w) (w' := w.drew) ⟨Nat.le_refl _, fun _ _ _ => rfl, fun _ _ h => h⟩ hy
    obtain ⟨_, new', hnew', hflat', hns', _⟩ := run_first (P := P) hydrew hsz hw
    obtain ⟨nc, hnc, hrun⟩ := append_grow (ty := o.type) hu hu2 hi hisz hby hby0 hz (base := base) (cap := cap) hlen2 hnew' hold hfit hr
    have hrun := hexec _ hrun
    have hoseq : ∀ cells : Array Value, (w.drew.alloc (.cells cells e)).heap[w.heap.size]? = some (.cells cells e (0, 0)) := fun cells => by
      show (w.heap.push _)[w.heap.size]? = _; simp
    have hk : ∀ (cells : Array Value) b, b < w.heap.size → (w.drew.alloc (.cells cells e)).heap[b]? = w.heap[b]? := fun cells b hb => by
      show (w.heap.push _)[b]? = _; rw [Array.getElem?_push, if_neg (by omega)]
    have hsize : ∀ cells : Array Value, (w.drew.alloc (.cells cells e)).heap.size = w.heap.size + 1 := fun cells => Array.size_push _
    have htot : es.length * sz + ys.length * sz + (nc - (es.length + ys.length)) * sz = nc * sz := by rw [← Nat.add_mul, ← Nat.add_mul]; congr 1; omega
    have hcells : (old ++ new' ++ Builtin.zeroCells zv.cells (nc - (es.length + ys.length))).size = nc * sz := by
      simp only [Array.size_append, hos, hns', Builtin.zeroCells, Array.size_map, Array.size_range, hzs]; exact htot
    refine ⟨_, _, some (w.heap.size, 0), hrun, .inr ⟨w.heap.size, nc, rfl, by rw [List.length_append], by rw [List.length_append]; exact hnc, _, e, hoseq _, ?_⟩, ?_⟩
    · rw [hcells]; exact Nat.le_refl _
    · refine h.change (w' := w.drew.alloc _) d (some (w.heap.size, 0)) ⟨ver + 1, .sl sz (es ++ ys)⟩ rfl rfl rfl (by rw [hsize]; omega) (fun k hk' _ => hk _ k hk') (.inl (by rw [hb]; exact Nat.lt_succ_self _))
        (fun p _ hq => .inr (by have := Option.some.inj hq; rw [← this]; exact ⟨Nat.le_refl _, by rw [hsize]; exact Nat.lt_succ_self _⟩)) ?_
      refine Flat.box ?_ (hoseq _)
      have hext : Ext w (Nn O β s.bx) (w.drew.alloc (.cells (old ++ new' ++ Builtin.zeroCells zv.cells (nc - (es.length + ys.length))) e)) (Nn O (fun i => if i = d then some (w.heap.size, 0) else β i) (fun i => if i = d then ⟨ver + 1, .sl sz (es ++ ys)⟩ else s.bx i)) := by
        refine ⟨by rw [hsize]; omega, fun q hq _ => hk _ q hq, fun q hq hN => ?_⟩
        rcases hN with hN | ⟨r, base', hr, hr'⟩
        · exact .inl hN
        · by_cases e : r = d
          · subst e; simp only [if_true, Option.some.injEq, Prod.mk.injEq] at hr'; omega
          · simp only [if_neg e] at hr hr'; exact .inr ⟨r, base', hr, hr'⟩
      have hfl' : Flat w (Nn O β s.bx) new' sz ys := ⟨hflat'.size, hflat'.len, hflat'.one, fun i j hi hj => by
        obtain ⟨v, hv, hV⟩ := hflat'.get i j hi hj
        exact ⟨v, hv, V.ext (w := w.drew) (w' := w) ⟨Nat.le_refl _, fun _ _ _ => rfl, fun _ _ h => h⟩ hV⟩⟩
      refine (hfo.ext hext).append (hfl'.ext hext) hns' (by rw [hcells]; omega) ?_ ?_
      · intro m hm
        rw [Array.append_assoc, Array.getElem?_append_left (by omega)]
      · intro m hm
        rw [Array.append_assoc, Array.getElem?_append_right (by omega), Array.getElem?_append_left (by omega), hos]
        congr 1
        omega
end
end Go.Pl
/-
  append, as the plain step has it; a slice that is frozen. My own work.
-/
namespace Go.Pl
open Go
set_option linter.unusedVariables false
section
variable {O : Nat → Prop} {A0 : Lent} {w0 w : World} {β : Bt} {s : PS} {a : Act} {P : Program}
theorem Does.mk {o : Oper} {s' : PS} {v : Value} {w' : World} {β' : Bt} (hr : (execOp a.eval o).run P w = .ok (.value v) w') (h : Sim O w0 A0 β' s' (tmf (a.put o.dst v)) w') : Does P o O A0 w0 a w s' :=
  ⟨_, v, w', β', hr, .inl rfl, h⟩
theorem Sim.kill {tm : Nat → Value} (h : Sim O w0 A0 β s tm w) (d : Nat) : Sim O w0 A0 β (s.box d ⟨(s.bx d).ver, .dead⟩) tm w := by
  have := h.change (w' := w) d (β d) ⟨(s.bx d).ver, .dead⟩ rfl rfl rfl (Nat.le_refl _) (fun b _ _ => rfl) (.inr ⟨rfl, .inl rfl⟩) (fun p ho => by cases ho) trivial
  have e : (fun i => if i = d then β d else β i) = β := by funext i; split <;> simp_all
  rw [e] at this
  exact this
theorem kill_ext (d : Nat) (v : Nat) : Ext w (Nn O β s.bx) w (Nn O β (s.box d ⟨v, .dead⟩).bx) := by
  refine .of_less fun b hb => ?_
  rcases hb with hb | ⟨i, base, ho, hi⟩
  · exact .inl hb
  · by_cases e : i = d
    · simp only [PS.box, if_pos e] at ho; cases ho
    · simp only [PS.box, if_neg e] at ho; exact .inr ⟨i, base, ho, hi⟩
theorem killed_free {tm : Nat → Value} (h : Sim O w0 A0 β s tm w) {d v b : Nat} {base : Nat} (ho : (s.bx d).st.owned = true) (hb : β d = some (b, base)) : ¬ Nn O β (s.box d ⟨v, .dead⟩).bx b := by
  rintro (hn | ⟨i, base', hi, hbi⟩)
  · exact (h.out d _ ho hb).1 hn
  · by_cases e : i = d
    · simp only [PS.box, if_pos e] at hi; cases hi
    · simp only [PS.box, if_neg e] at hi
      exact h.inj i d _ _ e hi ho hbi hb rfl
theorem close_own {tm : Nat → Value} (h : Sim O w0 A0 β s tm w) {d sz : Nat} {es : List (List CV)} (hst : (s.bx d).st = .sl sz es) {v : Value} (hv : Hdr w (β d) sz es v) (q : Nat) :
    V w (Nn O β (s.box d ⟨q, .dead⟩).bx) v (.sl es) := by
  have ho : (s.bx d).st.owned = true := by rw [hst]; rfl
  rcases hv with ⟨_, rfl, rfl⟩ | ⟨b, cap, hb, rfl, hl, _⟩
  · exact V.nil
  · have hB := h.boxes d
    rw [hst, hb] at hB
    obtain ⟨arr, el, hheap, hfl⟩ := Flat.of_box hB
    exact (hfl.ext (kill_ext d q)).closed hheap (killed_free h ho hb) hl
theorem hdr_of {N : Nat → Prop} {v : Value} {d ver off len sz : Nat} {es : List (List CV)} (hR : R w N β s.bx v (.osl d ver off len)) (hb : s.bx d = ⟨ver, .sl sz es⟩) (hl : len = es.length)
    (hbr : BR w N (β d) (.sl sz es)) : Hdr w (β d) sz es v := by
  obtain ⟨_, hor⟩ := hR.2 (by rw [hb]) sz es (by rw [hb])
  subst hl
  rcases hor with ⟨h1, h2, h3⟩ | ⟨b, cap, h1, h2, h3, h4⟩
  · refine .inl ⟨h1, h2, List.eq_nil_of_length_eq_zero h3⟩
  · exact .inr ⟨b, cap, h1, h2, h3, h4⟩
theorem Sim.move {tm : Nat → Value} (h : Sim O w0 A0 β s tm w) {d e sz : Nat} {es : List (List CV)} (hde : d ≠ e) (hst : (s.bx d).st = .sl sz es) :
    Sim O w0 A0 (fun i => if i = e then β d else β i) ((s.box d ⟨(s.bx d).ver, .dead⟩).box e ⟨(s.bx e).ver + 1, .sl sz es⟩) tm w := by
  have hod : (s.bx d).st.owned = true := by rw [hst]; rfl
  have hless : ∀ b, Nn O (fun i => if i = e then β d else β i) ((s.box d ⟨(s.bx d).ver, .dead⟩).box e ⟨(s.bx e).ver + 1, .sl sz es⟩).bx b → Nn O β s.bx b := by
    rintro b (hb | ⟨i, base, ho, hi⟩)
    · exact .inl hb
    · by_cases ei : i = e
      · simp only [if_pos ei] at hi; exact .inr ⟨d, base, hod, hi⟩
      · simp only [if_neg ei] at hi
        by_cases ed : i = d
        · simp only [PS.box, if_neg ei, if_pos ed] at ho; cases ho
        · simp only [PS.box, if_neg ei, if_neg ed] at ho; exact .inr ⟨i, base, ho, hi⟩
  have hext := Ext.of_less (w := w) hless
  have hcomp : ∀ i, Compat w w (β i) ((fun i => if i = e then β d else β i) i) (s.bx i) (((s.box d ⟨(s.bx d).ver, .dead⟩).box e ⟨(s.bx e).ver + 1, .sl sz es⟩).bx i) := by
    intro i
    by_cases ei : i = e
    · subst ei; simp only [PS.box, if_true]; exact .inl (Nat.lt_succ_self _)
    · by_cases ed : i = d
      · subst ed; simp only [PS.box, if_neg ei, if_true]; exact .inr ⟨rfl, .inl rfl⟩
      · simp only [PS.box, if_neg ei, if_neg ed]; exact Compat.same fun _ _ _ _ h => h
  refine ⟨h.os, h.tape, h.output, h.size, h.keep, fun i => (h.temps i).change hext hcomp, ?_, ?_, ?_, h.outer, ?_, ?_⟩
  · intro i
    have hB := h.boxes i
    by_cases ei : i = e
    · subst ei
      simp only [PS.box, if_true]
      have hB := h.boxes d
      rw [hst] at hB
      refine ⟨hB.1, ?_⟩
      rcases hB.2 with hb | ⟨b, hp, ho, hc⟩
      · exact .inl hb
      · exact .inr ⟨b, hp, ho, fun i hi => (hc i hi).ext hext rfl⟩
    · by_cases ed : i = d
      · simp only [PS.box, if_neg ei, if_pos ed]; trivial
      · simp only [PS.box, if_neg ei, if_neg ed]
        cases hsi : (s.bx i).st with
        | var cs =>
          rw [hsi] at hB
          obtain ⟨b, base, hp, ho, hc⟩ := hB
          exact ⟨b, base, hp, ho, hc.ext hext rfl⟩
        | vp cs => trivial
        | sl sz' es' =>
          rw [hsi] at hB
          refine ⟨hB.1, ?_⟩
          rcases hB.2 with hb | ⟨b, hp, ho, hc⟩
          · exact .inl hb
          · exact .inr ⟨b, hp, ho, fun i hi => (hc i hi).ext hext rfl⟩
        | dead => trivial
  · intro i j p q hij hi hj hp hq
    have key : ∀ i p, (((s.box d ⟨(s.bx d).ver, .dead⟩).box e ⟨(s.bx e).ver + 1, .sl sz es⟩).bx i).st.owned = true → (if i = e then β d else β i) = some p →
        ∃ k, (k = if i = e then d else i) ∧ (s.bx k).st.owned = true ∧ β k = some p ∧ (i ≠ e → i ≠ d) := by
      intro i p hi hp
      by_cases ei : i = e
      · simp only [if_pos ei] at hp ⊢; exact ⟨d, rfl, hod, hp, fun h => absurd ei h⟩
      · by_cases ed : i = d
        · simp only [PS.box, if_neg ei, if_pos ed] at hi; cases hi
        · simp only [PS.box, if_neg ei, if_neg ed] at hi; simp only [if_neg ei] at hp ⊢; exact ⟨i, rfl, hi, hp, fun _ => ed⟩
    obtain ⟨k, hk, hko, hkp, hkd⟩ := key i p hi hp
    obtain ⟨m, hm, hmo, hmp, hmd⟩ := key j q hj hq
    refine h.inj k m p q ?_ hko hmo hkp hmp
    intro e'
    subst hk; subst hm
    by_cases ei : i = e <;> by_cases ej : j = e
    · exact hij (ei.trans ej.symm)
    · rw [if_pos ei, if_neg ej] at e'; exact hmd ej e'.symm
    · rw [if_neg ei, if_pos ej] at e'; exact hkd ei e'
    · rw [if_neg ei, if_neg ej] at e'; exact hij e'
  · intro i p hi hp
    by_cases ei : i = e
    · simp only [if_pos ei] at hp; exact h.out d p hod hp
    · by_cases ed : i = d
      · simp only [PS.box, if_neg ei, if_pos ed] at hi; cases hi
      · simp only [PS.box, if_neg ei, if_neg ed] at hi; simp only [if_neg ei] at hp; exact h.out i p hi hp
  · intro i ps hi
    by_cases ei : i = e
    · subst ei; simp only [PS.box, if_true] at hi; cases hi
    · by_cases ed : i = d
      · simp only [PS.box, if_neg ei, if_pos ed] at hi; cases hi
      · simp only [PS.box, if_neg ei, if_neg ed] at hi
        obtain ⟨b, base, hp, ho, hc⟩ := h.vps i ps hi
        exact ⟨b, base, by simp only [if_neg ei]; exact hp, ho, hc.change hext hcomp rfl⟩
  · intro i hi ho
    by_cases ei : i = e
    · subst ei; simp [PS.box] at hi
    · by_cases ed : i = d
      · simp only [PS.box, if_neg ei, if_pos ed] at ho; cases ho
      · simp only [PS.box, if_neg ei, if_neg ed] at hi ho
        simp only [if_neg ei]
        exact h.still i hi ho
theorem box_box (s : PS) (d : Nat) (b b' : Box) : (s.box d b).box d b' = s.box d b' := by
  simp only [PS.box, PS.mk.injEq, true_and]; funext i; split <;> rfl
theorem ok_app {o : Oper} {c : Call} {t e e2 u : TypeId} {x y : Operand} {x' y' : PO} {i : TypeInfo} {sz : Nat} {zv : Value} {own : Bool} (ho : o.op = .call c) (hcal : c.callee = .builtin .append) (hargs : c.args = #[x, y]) (hty : c.argTypes = #[t, u])
    (h : Sim O w0 A0 β s (tmf a) w) (hd : dstOk o.dst a.tmps.size) (hcx : chkPO x x' = true) (hcy : chkPO y y' = true)
    (hu : P.underlying t = some (.slice e)) (hu2 : P.underlying u = some (.slice e2)) (hi : P.info? e = some i) (hisz : i.size = sz) (hsz : 0 < sz) (hby : i.bytes ≤ 16384) (hby0 : i.bytes ≠ 0) (hz : i.zero = some zv) (hzs : zv.cells.size = sz)
    {s' : PS} (hs : pstep o.dst s (.app sz x' y' own) = some s') : Does P o O A0 w0 a w s' := by
  simp only [pstep] at hs
  split at hs
  · rename_i k d ver off len ys hdst hx hy
    split at hs
    · rename_i q sz' es hb
      split at hs
      · rename_i hc
        obtain ⟨rfl, rfl, rfl, hlen, hr, hw⟩ := hc
        have hR := ev_R h hcx
        rw [hx] at hR
        have hB := h.boxes d
        rw [hb] at hB
        obtain ⟨v, w', p', hrun, hH, hS⟩ := run_append ho hcal hargs hty hu hu2 hi hisz hsz hby hby0 hz hzs h hb (hdr_of hR hb hlen hB) (evc_V h hcy hy) hr hw
        have hkd := hd k hdst
        have hd1 : (s.box d ⟨q + 1, .sl sz' (es ++ ys)⟩).bx d = ⟨q + 1, .sl sz' (es ++ ys)⟩ := by simp [PS.box]
        have hb1 : (fun i => if i = d then p' else β i) d = p' := by simp
        split at hs
        · -- as the frame's own
          obtain rfl := Option.some.inj hs
          by_cases hdk : d = k
          · subst hdk
            have e1 : (s.box d ⟨q + 1, .dead⟩).box d ⟨(s.bx d).ver + 1, .sl sz' (es ++ ys)⟩ = s.box d ⟨q + 1, .sl sz' (es ++ ys)⟩ := by rw [box_box, hb]
            rw [e1]
            refine Does.mk (β' := fun i => if i = d then p' else β i) hrun ?c
            case c =>
              rw [hdst, tmf_put _ hkd]
              refine hS.put d _ v ?_
              refine ⟨⟨?_, hH.one⟩, fun _ sz2 es2 hs2 => ⟨rfl, ?_⟩⟩
              · rw [hd1, hb]; exact Nat.le_refl _
              · rw [hd1] at hs2
                cases hs2
                simp only [if_true]
                rcases hH with ⟨h1, h2, h3⟩ | ⟨b, cap, h1, h2, h3, h4⟩
                · exact .inl ⟨h1, h2, by rw [h3]; rfl⟩
                · exact .inr ⟨b, cap, h1, h2, h3, h4⟩
          · have hmv := hS.move (d := d) (e := k) (sz := sz') (es := es ++ ys) hdk (by rw [hd1])
            have e1 : ((s.box d ⟨q + 1, .sl sz' (es ++ ys)⟩).box d ⟨((s.box d ⟨q + 1, .sl sz' (es ++ ys)⟩).bx d).ver, .dead⟩) = s.box d ⟨q + 1, .dead⟩ := by rw [hd1, box_box]
            have e2 : ((s.box d ⟨q + 1, .sl sz' (es ++ ys)⟩).bx k).ver = (s.bx k).ver := by simp [PS.box, Ne.symm hdk]
            rw [e1, e2] at hmv
            refine Does.mk (β' := fun i => if i = k then (if d = d then p' else β d) else (if i = d then p' else β i)) hrun ?c
            case c =>
              rw [hdst, tmf_put _ hkd]
              have hbk : ((s.box d ⟨q + 1, .dead⟩).box k ⟨(s.bx k).ver + 1, .sl sz' (es ++ ys)⟩).bx k = ⟨(s.bx k).ver + 1, .sl sz' (es ++ ys)⟩ := by simp [PS.box]
              refine hmv.put k _ v ?_
              refine ⟨⟨?_, hH.one⟩, fun _ sz2 es2 hs2 => ⟨rfl, ?_⟩⟩
              · rw [hbk]; exact Nat.le_refl _
              · rw [hbk] at hs2
                cases hs2
                simp only [if_true]
                rcases hH with ⟨h1, h2, h3⟩ | ⟨b, cap, h1, h2, h3, h4⟩
                · exact .inl ⟨h1, h2, by rw [h3]; rfl⟩
                · exact .inr ⟨b, cap, h1, h2, h3, h4⟩
        · -- closed
          obtain rfl := Option.some.inj hs
          have hK := hS.kill d
          have hV := close_own hS (d := d) (sz := sz') (es := es ++ ys) (by rw [hd1]) (v := v) (by simpa using hH) (q + 1)
          have e1 : ((s.box d ⟨q + 1, .sl sz' (es ++ ys)⟩).box d ⟨((s.box d ⟨q + 1, .sl sz' (es ++ ys)⟩).bx d).ver, .dead⟩) = s.box d ⟨q + 1, .dead⟩ := by rw [hd1, box_box]
          rw [e1] at hK
          rw [box_box] at hV
          refine Does.mk (β' := fun i => if i = d then p' else β i) hrun ?c
          case c =>
            rw [hdst, tmf_put _ hkd]
            exact hK.put k _ v hV
      · cases hs
    · cases hs
  · cases hs
theorem Sim.fz (h : Sim O w0 A0 β s (tmf a) w) {i d ver off len : Nat} (hi : s.t i = .osl d ver off len) {v : CV} (hc : s.close (.osl d ver off len) = some v) :
    Sim O w0 A0 β ((s.box d ⟨ver, .dead⟩).put i (.c v)) (tmf a) w := by
  have hR := h.temps i
  rw [hi] at hR
  simp only [PS.close] at hc
  split at hc
  · rename_i q sz es hb
    split at hc
    · rename_i hcond
      obtain ⟨rfl, rfl, hl⟩ := hcond
      obtain rfl := Option.some.inj hc
      have hB := h.boxes d
      rw [hb] at hB
      have hV := close_own h (d := d) (sz := sz) (es := es) (by rw [hb]) (hdr_of hR hb hl hB) q
      have hK := h.kill d
      rw [hb] at hK
      have hput := hK.put i (.c (.sl es)) (tmf a i) hV
      have e : (fun j => if j = i then tmf a i else tmf a j) = tmf a := by funext j; split <;> simp_all
      rw [e] at hput
      exact hput
    · cases hc
  · cases hc
end
end Go.Pl
/-
  FUNCTIONS FOR WHICH THE MODEL ITSELF STANDS IN, of plain arguments. My own work.
-/
namespace Go.Pl
open Go
set_option linter.unusedVariables false
set_option linter.unusedSimpArgs false
def XF.name : XF → String
  | .adc => "math/bits.Add64"
  | .sbc => "math/bits.Sub64"
def sbcEntry : Array Value → Sem Value := fun args => do
  let (x, y, b) ← Extern.MathBitsCarry.three "Sub64" args
  pure (Extern.MathBitsCarry.pair ((x + Extern.MathBitsCarry.m64 - y - b) % Extern.MathBitsCarry.m64) (if x < y + b then 1 else 0))
theorem find_of {fn : Func} {n : String} {e : Array Value → Sem Value} (hn : fn.name = n) (h1 : Extern.allGenericRows.lookup n = none) (h2 : Extern.allTypedRows.lookup n = none) (h3 : Extern.allRows.lookup n = some e) :
    Extern.find fn = some e := by
  simp [Extern.find, hn, h1, h2, h3]
theorem findNext_of {fn : Func} {n : String} (hn : fn.name = n) (ho : fn.origin = "") (h1 : Extern.allNextRows.lookup n = none) (h2 : Extern.allNextRows.lookup "" = none) : Extern.findNext fn = none := by
  simp [Extern.findNext, hn, ho, h1, h2]
theorem V_ints {w : World} {N : Nat → Prop} {vs : List Value} {k : IntKind} {x y z : Int} (hl : vs.length = 3)
    (hV : ∀ (i : Nat) (h1 : i < vs.length) (h2 : i < [CV.int k x, .int k y, .int k z].length), V w N vs[i] [CV.int k x, .int k y, .int k z][i]) : vs = [.int k x, .int k y, .int k z] := by
  match vs, hl with
  | [a, b, c], _ =>
    have h0 := V.int_inv (hV 0 (by simp) (by simp))
    have h1 := V.int_inv (hV 1 (by simp) (by simp))
    have h2 := V.int_inv (hV 2 (by simp) (by simp))
    simp only [List.getElem_cons_zero, List.getElem_cons_succ] at h0 h1 h2
    simp [h0, h1, h2]
theorem xfC_adc {cs : List CV} {r : CV} (h : xfC .adc cs = some r) : ∃ x y c : Int, cs = [.int .u64 x, .int .u64 y, .int .u64 c] ∧ (0 ≤ x ∧ 0 ≤ y ∧ 0 ≤ c ∧ c ≤ 1) ∧ r = .tup [.int .u64 ((x + y + c) % m64), .int .u64 ((x + y + c) / m64)] := by
  unfold xfC at h
  split at h
  · split at h
    · exact ⟨_, _, _, rfl, ‹_›, (Option.some.inj h).symm⟩
    · cases h
  · rename_i he; cases he
  · cases h
theorem xfC_sbc {cs : List CV} {r : CV} (h : xfC .sbc cs = some r) : ∃ x y c : Int, cs = [.int .u64 x, .int .u64 y, .int .u64 c] ∧ (0 ≤ x ∧ 0 ≤ y ∧ y < m64 ∧ 0 ≤ c ∧ c ≤ 1) ∧ r = .tup [.int .u64 ((x - y - c) % m64), .int .u64 (if x < y + c then 1 else 0)] := by
  unfold xfC at h
  split at h
  · rename_i he; cases he
  · split at h
    · exact ⟨_, _, _, rfl, ‹_›, (Option.some.inj h).symm⟩
    · cases h
  · cases h
theorem run_sbc {P : Program} {x y c : Int} (hx : 0 ≤ x) (hy : 0 ≤ y) (hy' : y < m64) (hc : 0 ≤ c) (hc' : c ≤ 1) (w : World) :
    (sbcEntry #[.int .u64 x, .int .u64 y, .int .u64 c]).run P w = .ok (.tuple #[.int .u64 ((x - y - c) % m64), .int .u64 (if x < y + c then 1 else 0)]) w := by
  obtain ⟨X, rfl⟩ := Int.eq_ofNat_of_zero_le hx
  obtain ⟨Y, rfl⟩ := Int.eq_ofNat_of_zero_le hy
  obtain ⟨k, rfl⟩ := Int.eq_ofNat_of_zero_le hc
  have hk : k = 0 ∨ k = 1 := by omega
  have run : (sbcEntry #[.int .u64 X, .int .u64 Y, .int .u64 k]).run P w =
      .ok (.tuple #[.int .u64 (((X + 18446744073709551616 - Y - k) % 18446744073709551616 : Nat) : Int), .int .u64 ((if X < Y + k then 1 else 0 : Nat) : Int)]) w := by
    rcases hk with rfl | rfl <;> rfl
  rw [run]
  have e1 : (((X + 18446744073709551616 - Y - k) % 18446744073709551616 : Nat) : Int) = ((X : Int) - Y - k) % m64 := by
    unfold m64 at hy' ⊢
    omega
  have e2 : ((if X < Y + k then 1 else 0 : Nat) : Int) = (if (X : Int) < Y + k then 1 else 0) := by
    split <;> split <;> first | rfl | omega
  rw [e1, e2]
section
variable {O : Nat → Prop} {A0 : Lent} {w0 w : World} {β : Bt} {s : PS} {a : Act} {P : Program}
theorem xf_run {g : XF} {fn : Func} (hn : fn.name = g.name) (ho : fn.origin = "") (hb : fn.body.isNone = true) {f : FuncId} (hf : P.funcs[f]? = some fn) {vs : Array Value} {cs : List CV} {N : Nat → Prop} {r : CV}
    (hl : vs.toList.length = cs.length) (hV : ∀ (i : Nat) (h1 : i < vs.toList.length) (h2 : i < cs.length), V w N vs.toList[i] cs[i]) (hr : xfC g cs = some r) :
    ∃ v, (callFunc f vs).run P w = .ok (.value v) w ∧ V w N v r := by
  have tup2 : ∀ (p q : Int), V w N (.tuple #[.int .u64 p, .int .u64 q]) (.tup [.int .u64 p, .int .u64 q]) := fun p q =>
    V.tup _ _ rfl (fun i h1 h2 => by
      match i with
      | 0 => exact V.int _ _
      | 1 => exact V.int _ _
      | i + 2 => exact absurd h2 (by simp))
  cases g with
  | adc =>
    obtain ⟨x, y, c, rfl, hc, rfl⟩ := xfC_adc hr
    have := V_ints (by simpa using hl) hV
    obtain rfl : vs = #[.int .u64 x, .int .u64 y, .int .u64 c] := by
      apply Array.toList_inj.mp; simpa using this
    obtain ⟨h0, h1, h2, h3⟩ := hc
    rw [run_callFunc_extern hf (by rw [hn]; kernel_rfl) hb (findNext_of hn ho (by kernel_rfl) (by kernel_rfl)) (find_of (e := add64Entry) hn (by kernel_rfl) (by kernel_rfl) (by kernel_rfl)), run_add64 x y c h0 h1 h2 h3]
    exact ⟨_, rfl, tup2 _ _⟩
  | sbc =>
    obtain ⟨x, y, c, rfl, hc, rfl⟩ := xfC_sbc hr
    have := V_ints (by simpa using hl) hV
    obtain rfl : vs = #[.int .u64 x, .int .u64 y, .int .u64 c] := by
      apply Array.toList_inj.mp; simpa using this
    obtain ⟨h0, h1, h1', h2, h3⟩ := hc
    rw [run_callFunc_extern hf (by rw [hn]; kernel_rfl) hb (findNext_of hn ho (by kernel_rfl) (by kernel_rfl)) (find_of (e := sbcEntry) hn (by kernel_rfl) (by kernel_rfl) (by kernel_rfl)), run_sbc h0 h1 h1' h2 h3]
    exact ⟨_, rfl, tup2 _ _⟩
theorem evcs_V (h : Sim O w0 A0 β s (tmf a) w) : ∀ {xs : List Operand} {ys : List PO} {cs : List CV}, chkPOs xs ys = true → evcs s ys = some cs →
    xs.length = cs.length ∧ ∀ (i : Nat) (h1 : i < xs.length) (h2 : i < cs.length), V w (Nn O β s.bx) (a.eval xs[i]) cs[i]
  | [], [], cs, _, he => by obtain rfl := Option.some.inj he; exact ⟨rfl, fun i h => by simp at h⟩
  | [], _ :: _, _, hc, _ => by cases hc
  | _ :: _, [], _, hc, _ => by cases hc
  | x :: xs, y :: ys, cs, hc, he => by
    simp only [chkPOs, Bool.and_eq_true] at hc
    simp only [evcs] at he
    split at he
    · rename_i v vs hv hvs
      obtain rfl := Option.some.inj he
      obtain ⟨hl, hV⟩ := evcs_V h hc.2 hvs
      refine ⟨by simp [hl], fun i h1 h2 => ?_⟩
      cases i with
      | zero => exact evc_V h hc.1 hv
      | succ i => exact hV i (by simpa using h1) (by simpa using h2)
    · cases he
theorem ok_xf {o : Oper} {f : FuncId} {cargs : Array Operand} {tys : Array TypeId} {g : XF} {ys : List PO} {fn : Func} (ho : o.op = .call ⟨.value (.func f), cargs, tys⟩) (hf : P.funcs[f]? = some fn) (hn : fn.name = g.name) (horg : fn.origin = "") (hb : fn.body.isNone = true)
    (h : Sim O w0 A0 β s (tmf a) w) (hd : dstOk o.dst a.tmps.size) (hcs : chkPOs cargs.toList ys = true) {s' : PS} (hs : pstep o.dst s (.xf g ys) = some s') : Does P o O A0 w0 a w s' := by
  simp only [pstep] at hs
  split at hs
  · rename_i cs hev
    cases hr : xfC g cs with
    | none => rw [hr] at hs; cases hs
    | some r =>
      rw [hr] at hs
      obtain rfl := Option.some.inj hs
      obtain ⟨hl, hV⟩ := evcs_V h hcs hev
      obtain ⟨v, hrun, hv⟩ := xf_run (P := P) (w := w) hn horg hb hf (vs := cargs.map a.eval) (cs := cs) (N := Nn O β s.bx) (by simpa using hl) (fun i h1 h2 => by
        have := hV i (by simpa using h1) h2
        simpa using this) hr
      refine Does.val h hd (v := v) ?_ hv
      unfold execOp
      simp only [ho, resolve, Act.eval, Deferred.ofValue, invoke, Sem.run_bind, Sem.run_pure, Result.andThen_ok]
      simpa using hrun
  · cases hs
end
end Go.Pl
/-
  THE PLAIN CODE OF A FUNCTION IS CHECKED AGAINST THE FUNCTION, operation by operation, by a computable test. My own work.
-/
namespace Go.Pl
open Go
set_option linter.unusedVariables false
def isRow' (P : Program) (t : TypeId) : Bool := match P.underlying t with | some d => d.isRow | none => false
def chkK (P : Program) (o : Oper) : PK → Bool
  | .mv y => match o.op with
    | .move x => chkPO x y
    | .assign x => chkPO x y
    | _ => false
  | .pick c x y => match o.op with
    | .pick c' x' y' => chkPO c' c && chkPO x' x && chkPO y' y
    | _ => false
  | .own0 _ => o.dst.isSome && match o.op with
    | .move x => chkPO x (.k (.sl []))
    | .assign x => chkPO x (.k (.sl []))
    | _ => false
  | .alloc z => o.dst.isSome && match o.op with
    | .alloc el => match P.info? el with
      | some i => match i.zero with
        | some zv => chkL zv.cells.toList z
        | none => false
      | none => false
    | _ => false
  | .box n y => o.dst.isSome && decide (0 < n) && match o.op with
    | .box _ x => chkPO x y
    | _ => false
  | .build z qs => match o.op with
    | .build t parts => match P.info? t, P.underlying t with
      | some i, some (.struct fs) => match i.zero with
        | some zv => chkL zv.cells.toList z && fs.toList.all (fun f => (P.info? f.type).isSome) && chkParts (fun k => (fs[k]?).map fun f => (f.offset, P.cellsOf f.type)) parts.toList qs
        | none => false
      | some i, some (.array _ e) => match i.zero, P.info? e with
        | some zv, some j => chkL zv.cells.toList z && chkParts (fun k => some (k * j.size, j.size)) parts.toList qs
        | _, _ => false
      | _, _ => false
    | _ => false
  | .bsl sz len zc qs _ => decide (0 < sz) && decide (len * sz ≤ 2 ^ 24) && match o.op with
    | .buildSlice t l parts => decide (l = len) && match P.underlying t with
      | some (.slice e) => match P.info? e with
        | some i => decide (i.size = sz) && match i.zero with
          | some zv => chkL zv.cells.toList zc && decide (zc.length = sz) && chkPartsS parts.toList qs
          | none => false
        | none => false
      | _ => false
    | _ => false
  | .load f n y _ => match o.op with
    | .load t x => match P.underlying t, P.info? t with
      | some d, some i => chkPO x y && decide (i.size = n) && (d.isRow == f) && (f || decide (n = 1))
      | _, _ => false
    | _ => false
  | .store n x y _ => o.dst.isNone && decide (0 < n) && match o.op with
    | .store t x' y' => match P.info? t with
      | some i => decide (i.size = n) && chkPO x' x && chkPO y' y
      | none => false
    | _ => false
  | .bin op x y => match o.op with
    | .binOp op' _ x' y' _ => decide (op' = op) && chkPO x' x && chkPO y' y
    | _ => false
  | .un op x => match o.op with
    | .unOp op' _ x' => decide (op' = op) && chkPO x' x
    | _ => false
  | .eqs neq ag sh x y => match o.op with
    | .binOp op' t x' y' _ => decide (op' = if neq then .neq else .eql) && chkPO x' x && chkPO y' y && decide (shapeOf P 50 t = some sh) && decide (sh.length = P.cellsOf t) && (P.eqGuardType P.depth t == false) && (isRow' P t == ag) && (ag || decide (sh = [.b]))
    | _ => false
  | .conv k y => match o.op with
    | .convert src dst x => match P.underlying src, P.underlying dst with
      | some (.int _), some (.int k') => decide (k' = k) && chkPO x y
      | _, _ => false
    | _ => false
  | .fld f off n y => match o.op with
    | .field t x j => match P.underlying t with
      | some (.struct fs) => match fs[j]? with
        | some fd => match P.info? fd.type, P.underlying fd.type with
          | some i, some d => decide (fd.offset = off) && decide (i.size = n) && (d.isRow == f) && (f || decide (n = 1)) && chkPO x y
          | _, _ => false
        | none => false
      | _ => false
    | _ => false
  | .fad off y => match o.op with
    | .fieldAddr t x j => match P.underlying t with
      | some (.struct fs) => match fs[j]? with
        | some fd => match P.info? fd.type with
          | some i => decide (fd.offset = off) && decide (i.size ≠ 0) && chkPO x y
          | none => false
        | none => false
      | _ => false
    | _ => false
  | .iaA len sz y iy => match o.op with
    | .indexAddr t x ix => match P.underlying t with
      | some (.array l e) => match P.info? e with
        | some i => decide (l = len) && decide (i.size = sz) && chkPO x y && chkPO ix iy
        | none => false
      | _ => false
    | _ => false
  | .iaS sz y iy => match o.op with
    | .indexAddr t x ix => match P.underlying t with
      | some (.slice e) => match P.info? e with
        | some i => decide (i.size = sz) && chkPO x y && chkPO ix iy
        | none => false
      | _ => false
    | _ => false
  | .idA f len sz y iy => match o.op with
    | .index t x ix => match P.underlying t with
      | some (.array l e) => match P.info? e, P.underlying e with
        | some i, some d => decide (l = len) && decide (i.size = sz) && (d.isRow == f) && (f || decide (sz = 1)) && chkPO x y && chkPO ix iy
        | _, _ => false
      | _ => false
    | _ => false
  | .idS y iy => match o.op with
    | .index t x ix => match P.underlying t with
      | some .string => chkPO x y && chkPO ix iy
      | _ => false
    | _ => false
  | .ext y j => match o.op with
    | .extract x j' => decide (j' = j) && chkPO x y
    | _ => false
  | .len y => match o.op with
    | .call ⟨.builtin .len, ⟨[x]⟩, tys⟩ => match tys[0]? with
      | some t => match P.underlying t with
        | some (.slice _) => chkPO x y
        | _ => false
      | none => false
    | _ => false
  | .lenS y => match o.op with
    | .call ⟨.builtin .len, ⟨[x]⟩, tys⟩ => match tys[0]? with
      | some t => match P.underlying t with
        | some .string => chkPO x y
        | _ => false
      | none => false
    | _ => false
  | .app sz x y _ => decide (0 < sz) && match o.op with
    | .call ⟨.builtin .append, ⟨[x', y']⟩, ⟨[t, u]⟩⟩ => match P.underlying t, P.underlying u with
      | some (.slice e), some (.slice _) => match P.info? e with
        | some i => decide (i.size = sz) && decide (i.bytes ≤ 16384) && decide (i.bytes ≠ 0) && chkPO x' x && chkPO y' y && match i.zero with
          | some zv => decide (zv.cells.size = sz)
          | none => false
        | none => false
      | _, _ => false
    | _ => false
  | .slc sz y lo hi => match o.op with
    | .slice t x lo' hi' none => match P.underlying t with
      | some (.slice e) => match P.info? e with
        | some i => decide (i.size = sz) && chkPO x y && chkOO lo' lo && chkOO hi' hi
        | none => false
      | _ => false
    | _ => false
  | .slS y lo hi => match o.op with
    | .slice t x lo' hi' none => match P.underlying t with
      | some .string => chkPO x y && chkOO lo' lo && chkOO hi' hi
      | _ => false
    | _ => false
  | .slA _ _ _ _ _ => false
  | .nilc y => match o.op with
    | .nilCheck x => chkPO x y
    | _ => false
  | .mki t y => match o.op with
    | .makeInterface t' x => decide (t' = t) && chkPO x y && match P.underlying t with
      | some (.interface _) => false
      | some _ => true
      | none => false
    | _ => false
  | .mm mx y ys => match o.op with
    | .call ⟨.builtin b, ⟨x :: xs⟩, _⟩ => decide (b = if mx then .max else .min) && chkPO x y && chkPOs xs ys
    | _ => false
  | .xf g ys => match o.op with
    | .call ⟨.value (.func f), cargs, _⟩ => chkPOs cargs.toList ys && match P.funcs[f]? with
      | some fn => decide (fn.name = g.name) && decide (fn.origin = "") && fn.body.isNone
      | none => false
    | _ => false
  | .call _ _ _ => false
section
variable {O : Nat → Prop} {A0 : Lent} {w0 w : World} {β : Bt} {s : PS} {a : Act} {P : Program}
theorem chkK_ok {o : Oper} {k : PK} (hk : chkK P o k = true) (h : Sim O w0 A0 β s (tmf a) w) (hd : dstOk o.dst a.tmps.size) {s' : PS} (hs : pstep o.dst s k = some s') : Does P o O A0 w0 a w s' := by
  cases k <;> simp only [chkK] at hk
  case mv y =>
    split at hk
    · exact ok_mv (.inl ‹_›) h hd hk hs
    · exact ok_mv (.inr ‹_›) h hd hk hs
    · cases hk
  case pick c x y =>
    split at hk
    · simp only [Bool.and_eq_true] at hk
      exact ok_pick ‹_› h hd hk.1.1 hk.1.2 hk.2 hs
    · cases hk
  case own0 sz =>
    simp only [Bool.and_eq_true] at hk
    obtain ⟨h0, hk⟩ := hk
    obtain ⟨d, hdst⟩ := Option.isSome_iff_exists.1 h0
    split at hk
    · exact ok_own0 (.inl ‹_›) hk h hdst (hd d hdst) hs
    · exact ok_own0 (.inr ‹_›) hk h hdst (hd d hdst) hs
    · cases hk
  case alloc z =>
    simp only [Bool.and_eq_true] at hk
    obtain ⟨h0, hk⟩ := hk
    obtain ⟨d, hdst⟩ := Option.isSome_iff_exists.1 h0
    split at hk <;> (try (cases hk; done))
    split at hk <;> (try (cases hk; done))
    split at hk <;> (try (cases hk; done))
    exact ok_alloc ‹_› h hdst (hd d hdst) ‹_› ‹_› hk hs
  case box n y =>
    simp only [Bool.and_eq_true, decide_eq_true_eq] at hk
    obtain ⟨⟨h0, hn⟩, hk⟩ := hk
    obtain ⟨d, hdst⟩ := Option.isSome_iff_exists.1 h0
    split at hk <;> (try (cases hk; done))
    exact ok_box ‹_› h hdst (hd d hdst) hk hn hs
  case build z qs =>
    split at hk <;> (try (cases hk; done))
    split at hk <;> (try (cases hk; done))
    · split at hk <;> (try (cases hk; done))
      simp only [Bool.and_eq_true, List.all_eq_true] at hk
      exact ok_build ‹_› h hd ‹_› ‹_› hk.1.1 (.inl ⟨_, ‹_›, fun f hf => Option.isSome_iff_exists.1 (hk.1.2 f hf), hk.2⟩) hs
    · split at hk <;> (try (cases hk; done))
      simp only [Bool.and_eq_true] at hk
      exact ok_build ‹_› h hd ‹_› ‹_› hk.1 (.inr ⟨_, _, _, ‹_›, ‹_›, hk.2⟩) hs
  case bsl sz len zc qs own =>
    simp only [Bool.and_eq_true, decide_eq_true_eq] at hk
    obtain ⟨⟨h1, h2⟩, hk⟩ := hk
    split at hk <;> (try (cases hk; done))
    simp only [Bool.and_eq_true, decide_eq_true_eq] at hk
    obtain ⟨rfl, hk⟩ := hk
    split at hk <;> (try (cases hk; done))
    split at hk <;> (try (cases hk; done))
    simp only [Bool.and_eq_true, decide_eq_true_eq] at hk
    obtain ⟨h3, hk⟩ := hk
    split at hk <;> (try (cases hk; done))
    simp only [Bool.and_eq_true, decide_eq_true_eq] at hk
    exact ok_bsl ‹_› h hd ‹_› ‹_› h3 h1 h2 ‹_› hk.1.1 hk.1.2 hk.2 hs
  case load f n y av =>
    split at hk <;> (try (cases hk; done))
    split at hk <;> (try (cases hk; done))
    simp only [Bool.and_eq_true, Bool.or_eq_true, decide_eq_true_eq, beq_iff_eq] at hk
    obtain ⟨⟨⟨h1, h2⟩, h3⟩, h4⟩ := hk
    exact ok_load ‹_› h hd h1 _ _ ‹_› ‹_› h2 h3 (fun e => h4.resolve_left (by rw [e]; simp)) hs
  case store n x y av =>
    simp only [Bool.and_eq_true, decide_eq_true_eq] at hk
    obtain ⟨⟨h0, hn⟩, hk⟩ := hk
    split at hk <;> (try (cases hk; done))
    split at hk <;> (try (cases hk; done))
    simp only [Bool.and_eq_true, decide_eq_true_eq] at hk
    exact ok_store ‹_› h (by simpa using h0) hk.1.2 hk.2 ‹_› hk.1.1 hn hs
  case bin op x y =>
    split at hk <;> (try (cases hk; done))
    simp only [Bool.and_eq_true, decide_eq_true_eq] at hk
    obtain ⟨⟨rfl, h1⟩, h2⟩ := hk
    exact ok_bin ‹_› h hd h1 h2 hs
  case un op x =>
    split at hk <;> (try (cases hk; done))
    simp only [Bool.and_eq_true, decide_eq_true_eq] at hk
    obtain ⟨rfl, h1⟩ := hk
    exact ok_un ‹_› h hd h1 hs
  case eqs neq ag sh x y =>
    split at hk <;> (try (cases hk; done))
    simp only [Bool.and_eq_true, Bool.or_eq_true, decide_eq_true_eq, beq_iff_eq] at hk
    obtain ⟨⟨⟨⟨⟨⟨⟨rfl, h1⟩, h2⟩, h3⟩, h4⟩, h5⟩, h6⟩, h7⟩ := hk
    exact ok_eqs ‹_› h hd h1 h2 h3 h4 h5 h6 (fun e => h7.resolve_left (by rw [e]; simp)) hs
  case conv k y =>
    split at hk <;> (try (cases hk; done))
    split at hk <;> (try (cases hk; done))
    simp only [Bool.and_eq_true, decide_eq_true_eq] at hk
    obtain ⟨rfl, h1⟩ := hk
    exact ok_conv ‹_› h hd h1 ‹_› ‹_› hs
  case fld f off n y =>
    split at hk <;> (try (cases hk; done))
    split at hk <;> (try (cases hk; done))
    split at hk <;> (try (cases hk; done))
    split at hk <;> (try (cases hk; done))
    simp only [Bool.and_eq_true, Bool.or_eq_true, decide_eq_true_eq, beq_iff_eq] at hk
    obtain ⟨⟨⟨⟨h1, h2⟩, h3⟩, h4⟩, h5⟩ := hk
    exact ok_fld ‹_› h hd h5 ‹_› ‹_› h1 ‹_› h2 ‹_› h3 (fun e => h4.resolve_left (by rw [e]; simp)) hs
  case fad off y =>
    split at hk <;> (try (cases hk; done))
    split at hk <;> (try (cases hk; done))
    split at hk <;> (try (cases hk; done))
    split at hk <;> (try (cases hk; done))
    simp only [Bool.and_eq_true, decide_eq_true_eq] at hk
    exact ok_fad ‹_› h hd hk.2 ‹_› ‹_› hk.1.1 ‹_› hk.1.2 hs
  case iaA len sz y iy =>
    split at hk <;> (try (cases hk; done))
    split at hk <;> (try (cases hk; done))
    split at hk <;> (try (cases hk; done))
    simp only [Bool.and_eq_true, decide_eq_true_eq] at hk
    obtain ⟨⟨⟨rfl, h1⟩, h2⟩, h3⟩ := hk
    exact ok_iaA ‹_› h hd h2 h3 ‹_› ‹_› h1 hs
  case iaS sz y iy =>
    split at hk <;> (try (cases hk; done))
    split at hk <;> (try (cases hk; done))
    split at hk <;> (try (cases hk; done))
    simp only [Bool.and_eq_true, decide_eq_true_eq] at hk
    exact ok_iaS ‹_› h hd hk.1.2 hk.2 ‹_› ‹_› hk.1.1 hs
  case idA f len sz y iy =>
    split at hk <;> (try (cases hk; done))
    split at hk <;> (try (cases hk; done))
    split at hk <;> (try (cases hk; done))
    simp only [Bool.and_eq_true, Bool.or_eq_true, decide_eq_true_eq, beq_iff_eq] at hk
    obtain ⟨⟨⟨⟨⟨rfl, h1⟩, h2⟩, h3⟩, h4⟩, h5⟩ := hk
    exact ok_idA ‹_› h hd h4 h5 ‹_› ‹_› h1 ‹_› h2 (fun e => h3.resolve_left (by rw [e]; simp)) hs
  case idS y iy =>
    split at hk <;> (try (cases hk; done))
    split at hk <;> (try (cases hk; done))
    simp only [Bool.and_eq_true] at hk
    exact ok_idS ‹_› h hd hk.1 hk.2 ‹_› hs
  case ext y j =>
    split at hk <;> (try (cases hk; done))
    simp only [Bool.and_eq_true, decide_eq_true_eq] at hk
    obtain ⟨rfl, h1⟩ := hk
    exact ok_ext ‹_› h hd h1 hs
  case len y =>
    split at hk <;> (try (cases hk; done))
    split at hk <;> (try (cases hk; done))
    split at hk <;> (try (cases hk; done))
    exact ok_len ‹_› rfl rfl ‹_› h hd hk ‹_› hs
  case lenS y =>
    split at hk <;> (try (cases hk; done))
    split at hk <;> (try (cases hk; done))
    split at hk <;> (try (cases hk; done))
    exact ok_lenS ‹_› rfl rfl ‹_› h hd hk ‹_› hs
  case app sz x y own =>
    simp only [Bool.and_eq_true, decide_eq_true_eq] at hk
    obtain ⟨h0, hk⟩ := hk
    split at hk <;> (try (cases hk; done))
    split at hk <;> (try (cases hk; done))
    split at hk <;> (try (cases hk; done))
    simp only [Bool.and_eq_true, decide_eq_true_eq] at hk
    obtain ⟨⟨⟨⟨⟨h1, h2⟩, h3⟩, h4⟩, h5⟩, hk⟩ := hk
    split at hk <;> (try (cases hk; done))
    exact ok_app ‹_› rfl rfl rfl h hd h4 h5 ‹_› ‹_› ‹_› h1 h0 h2 h3 ‹_› (of_decide_eq_true hk) hs
  case slc sz y lo hi =>
    split at hk <;> (try (cases hk; done))
    split at hk <;> (try (cases hk; done))
    split at hk <;> (try (cases hk; done))
    simp only [Bool.and_eq_true, decide_eq_true_eq] at hk
    exact ok_slc ‹_› h hd hk.1.1.2 hk.1.2 hk.2 ‹_› ‹_› hk.1.1.1 hs
  case slS y lo hi =>
    split at hk <;> (try (cases hk; done))
    split at hk <;> (try (cases hk; done))
    simp only [Bool.and_eq_true] at hk
    exact ok_slS ‹_› h hd hk.1.1 hk.1.2 hk.2 ‹_› hs
  case slA => cases hk
  case nilc y =>
    split at hk <;> (try (cases hk; done))
    exact ok_nilc ‹_› h hd hk hs
  case mki t y =>
    split at hk <;> (try (cases hk; done))
    simp only [Bool.and_eq_true, decide_eq_true_eq] at hk
    obtain ⟨⟨rfl, h1⟩, hk⟩ := hk
    split at hk <;> (try (cases hk; done))
    rename_i d hne hu
    exact ok_mki ‹_› h hd h1 hu (by cases d <;> first | rfl | (exact absurd rfl (hne _))) hs
  case mm mx y ys =>
    split at hk <;> (try (cases hk; done))
    simp only [Bool.and_eq_true, decide_eq_true_eq] at hk
    obtain ⟨⟨rfl, h1⟩, h2⟩ := hk
    exact ok_mm ‹_› rfl rfl h hd h1 h2 hs
  case xf g ys =>
    split at hk <;> (try (cases hk; done))
    simp only [Bool.and_eq_true] at hk
    obtain ⟨h1, hk⟩ := hk
    split at hk <;> (try (cases hk; done))
    simp only [Bool.and_eq_true, decide_eq_true_eq] at hk
    exact ok_xf ‹_› ‹_› hk.1.1 hk.1.2 hk.2 h hd h1 hs
  case call => cases hk
end
end Go.Pl

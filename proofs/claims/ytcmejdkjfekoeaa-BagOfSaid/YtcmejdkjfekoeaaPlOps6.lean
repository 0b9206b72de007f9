/-
  EACH OPERATION, GOES ON: literals of structs, arrays, slices; texts' parts; the greatest and the least; a slice of nothing that is the frame's own. My own work.
-/
import Derived.Test.YtcmejdkjfekoeaaPlOps5
namespace Go.Pl
open Go
set_option linter.unusedVariables false
section
variable {O A0 : Nat → Prop} {w0 w : World} {β : Bt} {s : PS} {a : Act} {P : Program}

theorem ok_slS {o : Oper} {t : TypeId} {x : Operand} {y : PO} {lo hi : Option Operand} {lo' hi' : Option PO} (ho : o.op = .slice t x lo hi none) (h : Sim O w0 A0 β s (tmf a) w) (hd : dstOk o.dst a.tmps.size) (hc : chkPO x y = true)
    (hlo : chkOO lo lo' = true) (hhi : chkOO hi hi' = true) (hu : P.underlying t = some .string) {s' : PS} (hs : pstep o.dst s (.slS y lo' hi') = some s') : Does P o O A0 w0 a w s' := by
  simp only [pstep] at hs
  split at hs
  · rename_i b hy
    have hV := V.str_inv (evc_V h hc hy)
    split at hs
    · rename_i l k hl hk
      split at hs
      · rename_i hlk
        obtain rfl := Option.some.inj hs
        have hb1 := bound_run (P := P) h hhi hk (top := b.size) (by omega) .sliceAlen
        have hb2 := bound_run (P := P) h hlo hl (top := k) (by omega) .sliceB
        have hbs : (Instr.sliceBounds false b.size b.size (lo.map a.eval) (hi.map a.eval) none).run P w = .ok (l, k, b.size) w := by
          unfold Instr.sliceBounds
          rcases hb1 with ⟨rfl, rfl⟩ | ⟨z1, rfl, hz1⟩ <;> rcases hb2 with ⟨rfl, rfl⟩ | ⟨z2, rfl, hz2⟩ <;> simp [Sem.run_bind, *]
        refine Does.val h hd (v := .string (b.extract l k)) ?_ (V.str _)
        unfold execOp
        simp only [ho, hV, Instr.sliceAt, Instr.slice, Option.map_none, Option.isSome_none, Bool.false_eq_true, if_false, Sem.run_bind, run_underlying hu, Result.andThen_ok, hbs, Sem.run_pure]
      · cases hs
    · cases hs
  · cases hs

theorem ok_nilc {o : Oper} {x : Operand} {y : PO} (ho : o.op = .nilCheck x) (h : Sim O w0 A0 β s (tmf a) w) (hd : dstOk o.dst a.tmps.size) (hc : chkPO x y = true) {s' : PS} (hs : pstep o.dst s (.nilc y) = some s') : Does P o O A0 w0 a w s' := by
  have hR := ev_R h hc
  have key : ∀ pv', ((∃ cs, s.ev y = .rp cs ∧ 0 ≤ cs.length ∧ pv' = .rp (cs.drop 0)) ∨ (∃ d e o cs, s.ev y = .ptr d e o ∧ s.bx d = ⟨e, .var cs⟩ ∧ pv' = .ptr d e (o + 0)) ∨
      (∃ d e i o sz es, s.ev y = .sp d e i o ∧ s.bx d = ⟨e, .sl sz es⟩ ∧ pv' = .sp d e i (o + 0))) → s' = s.putO o.dst pv' → Does P o O A0 w0 a w s' := by
    rintro pv' hp rfl
    obtain ⟨b, off, he, hR'⟩ := moved h hR hp
    refine Does.val h hd (v := .pointer (some ⟨b, off + 0, none⟩)) ?_ hR'
    unfold execOp
    simp only [ho, he, Sem.run_pure, Nat.add_zero]
  simp only [pstep] at hs
  split at hs
  · rename_i d v o' hy
    split at hs
    · rename_i u cs hb
      split at hs
      · rename_i hv
        subst hv
        exact key _ (.inr (.inl ⟨d, u, o', cs, hy, hb, rfl⟩)) (Option.some.inj hs).symm
      · cases hs
    · cases hs
  · rename_i cs hy
    exact key _ (.inl ⟨cs, hy, Nat.zero_le _, rfl⟩) (Option.some.inj hs).symm
  · rename_i d v j o' hy
    split at hs
    · rename_i u sz es hb
      split at hs
      · rename_i hv
        subst hv
        exact key _ (.inr (.inr ⟨d, u, j, o', sz, es, hy, hb, rfl⟩)) (Option.some.inj hs).symm
      · cases hs
    · cases hs
  · cases hs

theorem ok_mki {o : Oper} {t : TypeId} {x : Operand} {y : PO} {d : TypeDesc} (ho : o.op = .makeInterface t x) (h : Sim O w0 A0 β s (tmf a) w) (hd : dstOk o.dst a.tmps.size) (hc : chkPO x y = true)
    (hu : P.underlying t = some d) (hdd : (match d with | .interface _ => false | _ => true) = true) {s' : PS} (hs : pstep o.dst s (.mki t y) = some s') : Does P o O A0 w0 a w s' := by
  simp only [pstep] at hs
  split at hs
  · rename_i c hy
    obtain rfl := Option.some.inj hs
    refine Does.val h hd (v := .iface t (a.eval x)) ?_ (V.iface t _ c (evc_V h hc hy))
    unfold execOp
    simp only [ho, Instr.makeInterface, Sem.run_bind, run_underlying hu, Result.andThen_ok]
    cases d <;> first | (simp at hdd; done) | rfl
  · cases hs

def chkPOs : List Operand → List PO → Bool
  | [], [] => true
  | x :: l, y :: m => chkPO x y && chkPOs l m
  | _, _ => false

theorem foldMm_run (h : Sim O w0 A0 β s (tmf a) w) (mx : Bool) (k : IntKind) : ∀ (xs : List Operand) (ys : List PO) (n r : Int), chkPOs xs ys = true → foldMm s mx k n ys = some r →
    ((xs.map a.eval).foldlM (if mx then Builtin.max2 else Builtin.min2) (.int k n)).run P w = .ok (.int k r) w
  | [], [], n, r, _, hf => by
    obtain rfl := Option.some.inj hf
    simp
  | [], _ :: _, n, r, hc, _ => by cases hc
  | _ :: _, [], n, r, hc, _ => by cases hc
  | x :: xs, y :: ys, n, r, hc, hf => by
    simp only [chkPOs, Bool.and_eq_true] at hc
    simp only [foldMm] at hf
    split at hf
    · rename_i k' m hm
      split at hf
      · rename_i hk
        subst hk
        have hV := V.int_inv (evc_V h hc.1 hm)
        have := foldMm_run h mx k xs ys _ r hc.2 hf
        simp only [List.map_cons, List.foldlM_cons, Sem.run_bind, hV]
        cases mx
        · simp only [Bool.false_eq_true, if_false, Builtin.min2, Sem.run_pure, Result.andThen_ok] at this ⊢
          exact this
        · simp only [if_true, Builtin.max2, Sem.run_pure, Result.andThen_ok] at this ⊢
          exact this
      · cases hf
    · cases hf

theorem ok_mm {o : Oper} {c : Call} {mx : Bool} {x : Operand} {y : PO} {xs : List Operand} {ys : List PO} (ho : o.op = .call c) (hcal : c.callee = .builtin (if mx then .max else .min)) (hargs : c.args.toList = x :: xs) (h : Sim O w0 A0 β s (tmf a) w) (hd : dstOk o.dst a.tmps.size)
    (hc : chkPO x y = true) (hcs : chkPOs xs ys = true) {s' : PS} (hs : pstep o.dst s (.mm mx y ys) = some s') : Does P o O A0 w0 a w s' := by
  simp only [pstep] at hs
  split at hs
  · rename_i k n hn
    split at hs
    · rename_i r hr
      obtain rfl := Option.some.inj hs
      have hV := V.int_inv (evc_V h hc hn)
      have hrun := foldMm_run (P := P) h mx k xs ys n r hcs hr
      refine Does.val h hd (v := .int k r) ?_ (V.int _ _)
      have hm : (c.args.map a.eval).toList = a.eval x :: xs.map a.eval := by simp [hargs]
      unfold execOp
      cases mx
      · simp only [Bool.false_eq_true, if_false] at hcal hrun
        simp only [ho, hcal, resolve, invoke, builtin, Builtin.min_, Sem.run_bind, Sem.run_pure, Result.andThen_ok, hm, hV, hrun]
      · simp only [if_true] at hcal hrun
        simp only [ho, hcal, resolve, invoke, builtin, Builtin.max_, Sem.run_bind, Sem.run_pure, Result.andThen_ok, hm, hV, hrun]
    · cases hs
  · cases hs

/-! ### Literals -/
theorem foldSet (off : Nat) : ∀ (l : List Value) (k : Nat) (cs : Array Value), off + k + l.length ≤ cs.size →
    ((l.zipIdx k).foldl (fun cs (p : Value × Nat) => cs.setIfInBounds (off + p.2) p.1) cs).size = cs.size ∧
    ∀ m, ((l.zipIdx k).foldl (fun cs (p : Value × Nat) => cs.setIfInBounds (off + p.2) p.1) cs)[m]? = if off + k ≤ m ∧ m < off + k + l.length then l[m - (off + k)]? else cs[m]?
  | [], k, cs, h => by
    refine ⟨rfl, fun m => ?_⟩
    rw [if_neg (by simp)]
    rfl
  | v :: l, k, cs, h => by
    simp only [List.length_cons] at h
    simp only [List.zipIdx_cons, List.foldl_cons]
    obtain ⟨h1, h2⟩ := foldSet off l (k + 1) (cs.setIfInBounds (off + k) v) (by simp; omega)
    refine ⟨by rw [h1]; simp, fun m => ?_⟩
    rw [h2]
    by_cases hm : m = off + k
    · subst hm
      rw [if_neg (by omega), if_pos (by simp only [List.length_cons]; omega)]
      simp [show off + k < cs.size by omega]
    · by_cases hin : off + (k + 1) ≤ m ∧ m < off + (k + 1) + l.length
      · rw [if_pos hin, if_pos (by simp only [List.length_cons]; omega)]
        rw [show m - (off + k) = (m - (off + (k + 1))) + 1 by omega]
        simp
      · rw [if_neg hin, if_neg (by simp only [List.length_cons]; omega)]
        rw [Array.getElem?_setIfInBounds, if_neg (by omega)]

theorem foldSetA (off : Nat) (vs cs : Array Value) (h : off + vs.size ≤ cs.size) :
    (vs.zipIdx.foldl (fun cs (p : Value × Nat) => cs.setIfInBounds (off + p.2) p.1) cs).size = cs.size ∧
    ∀ m, (vs.zipIdx.foldl (fun cs (p : Value × Nat) => cs.setIfInBounds (off + p.2) p.1) cs)[m]? = if off ≤ m ∧ m < off + vs.size then vs[m - off]? else cs[m]? := by
  have := foldSet off vs.toList 0 cs (by simpa using h)
  rw [← Array.foldl_toList, Array.toList_zipIdx]
  simpa using this

theorem Reads.get? {w : World} {N : Nat → Prop} {xs : Array Value} {cs : List CV} (h : Reads w N xs cs) {i : Nat} {v : Value} {c : CV} (hv : xs[i]? = some v) (hc : cs[i]? = some c) : V w N v c := by
  obtain ⟨h1, rfl⟩ := Array.getElem?_eq_some_iff.1 hv
  obtain ⟨h2, rfl⟩ := List.getElem?_eq_some_iff.1 hc
  exact h.get i h1 h2

theorem Reads.write {N : Nat → Prop} {xs : Array Value} {cs : List CV} (h : Reads w N xs cs) {v : Value} {c : CV} (hV : V w N v c) {off : Nat} (hn : 0 < c.cells.length) (hl : off + c.cells.length ≤ cs.length) :
    v.cells.size = c.cells.length ∧ Reads w N (v.cells.zipIdx.foldl (fun cs (p : Value × Nat) => cs.setIfInBounds (off + p.2) p.1) xs) (spl cs off c.cells) := by
  obtain ⟨h1, h2, h3⟩ := hV.cells hn
  obtain ⟨k1, k2⟩ := foldSetA off v.cells xs (by have := h.len; omega)
  refine ⟨h1, by rw [k1, spl_length hl]; exact h.len, fun i hi hj => ?_⟩
  have e1 : (v.cells.zipIdx.foldl (fun cs (p : Value × Nat) => cs.setIfInBounds (off + p.2) p.1) xs)[i]? = some _ := Array.getElem?_eq_getElem hi
  have e2 : (spl cs off c.cells)[i]? = some _ := List.getElem?_eq_getElem hj
  rw [k2] at e1
  rw [spl_get? hl] at e2
  rw [h1] at e1
  split at e1
  · rename_i hin
    rw [if_pos hin] at e2
    obtain ⟨q1, q2⟩ := Array.getElem?_eq_some_iff.1 e1
    obtain ⟨q3, q4⟩ := List.getElem?_eq_some_iff.1 e2
    rw [← q2, ← q4]
    exact h3 _ q1 q3
  · rename_i hin
    rw [if_neg hin] at e2
    exact h.get? e1 e2

/-- the parts of a literal: places and values -/
def chkParts (place : Nat → Option (Nat × Nat)) : List (Nat × Operand) → List (Nat × Nat × PO) → Bool
  | [], [] => true
  | (i, x) :: l, (off, n, y) :: m => (place i == some (off, n)) && chkPO x y && decide (0 < n) && chkParts place l m
  | _, _ => false

theorem fill_reads (h : Sim O w0 A0 β s (tmf a) w) (place : Nat → Option (Nat × Nat)) : ∀ (ps : List (Nat × Operand)) (qs : List (Nat × Nat × PO)) (vs : List (Nat × Nat × CV)) (cells : Array Value) (z z' : List CV),
    chkParts place ps qs = true → partsC s qs = some vs → Reads w (Nn O β s.bx) cells z → (∀ c ∈ z, c.one = true) → fillC z vs = some z' →
    ∃ cells', Instr.fill place cells (ps.map fun p => (p.1, a.eval p.2)) = some cells' ∧ Reads w (Nn O β s.bx) cells' z' ∧ ∀ c ∈ z', c.one = true
  | [], [], vs, cells, z, z', _, hp, hr, h1, hf => by
    obtain rfl := Option.some.inj hp
    obtain rfl := Option.some.inj hf
    exact ⟨cells, rfl, hr, h1⟩
  | [], _ :: _, _, _, _, _, hc, _, _, _, _ => by simp [chkParts] at hc
  | _ :: _, [], _, _, _, _, hc, _, _, _, _ => by simp [chkParts] at hc
  | (i, x) :: ps, (off, n, y) :: qs, vs, cells, z, z', hc, hp, hr, h1, hf => by
    simp only [chkParts, Bool.and_eq_true, beq_iff_eq, decide_eq_true_eq] at hc
    obtain ⟨⟨⟨hpl, hx⟩, hn⟩, hrest⟩ := hc
    simp only [partsC] at hp
    split at hp
    · rename_i c hcv
      cases hpr : partsC s qs with
      | none => rw [hpr] at hp; cases hp
      | some vs' =>
        rw [hpr] at hp
        obtain rfl := Option.some.inj hp
        simp only [fillC] at hf
        split at hf
        · rename_i hlen
          obtain ⟨rfl, hlen⟩ := hlen
          have hV := evc_V h hx hcv
          obtain ⟨hsz, hr'⟩ := hr.write hV hn hlen
          obtain ⟨cells', hf', hr'', h1'⟩ := fill_reads h place ps qs vs' _ _ z' hrest hpr hr' (by
            intro q hq
            simp only [spl, List.mem_append] at hq
            rcases hq with hq | hq | hq
            · exact h1 q (List.mem_of_mem_take hq)
            · exact (hV.cells hn).2.1 q hq
            · exact h1 q (List.mem_of_mem_drop hq)) hf
          refine ⟨cells', ?_, hr'', h1'⟩
          simp only [List.map_cons, Instr.fill, hpl]
          rw [if_neg (by rw [hsz, hr.len]; simp; omega)]
          exact hf'
        · cases hf
    · cases hp

theorem run_mapM {α γ : Type} (f : α → Sem γ) (g : α → γ) : ∀ (l : List α), (∀ x ∈ l, (f x).run P w = .ok (g x) w) → (l.mapM f).run P w = .ok (l.map g) w
  | [], _ => by simp
  | x :: l, h => by
    rw [List.mapM_cons]
    simp only [Sem.run_bind, h x (by simp), Result.andThen_ok, run_mapM f g l (fun y hy => h y (by simp [hy])), Sem.run_pure, List.map_cons]

theorem ok_build {o : Oper} {t : TypeId} {parts : Array (Nat × Operand)} {z : List CV} {qs : List (Nat × Nat × PO)} {i : TypeInfo} {zv : Value} (ho : o.op = .build t parts) (h : Sim O w0 A0 β s (tmf a) w) (hd : dstOk o.dst a.tmps.size)
    (hi : P.info? t = some i) (hz : i.zero = some zv) (hzc : chkL zv.cells.toList z = true)
    (hk : (∃ fs : Array Field, P.underlying t = some (.struct fs) ∧ (∀ f ∈ fs.toList, ∃ j, P.info? f.type = some j) ∧ chkParts (fun k => (fs[k]?).map fun f => (f.offset, P.cellsOf f.type)) parts.toList qs = true) ∨
      (∃ n e j, P.underlying t = some (.array n e) ∧ P.info? e = some j ∧ chkParts (fun k => some (k * j.size, j.size)) parts.toList qs = true))
    {s' : PS} (hs : pstep o.dst s (.build z qs) = some s') : Does P o O A0 w0 a w s' := by
  simp only [pstep] at hs
  split at hs
  · rename_i vs hvs
    cases hf : fillC z vs with
    | none => rw [hf] at hs; cases hs
    | some z' =>
      rw [hf] at hs
      obtain rfl := Option.some.inj hs
      obtain ⟨hl, h1, hV⟩ := chkL_V (w := w) (N := Nn O β s.bx) hzc
      have hr : Reads w (Nn O β s.bx) zv.cells z := ⟨by simpa using hl, fun k hk hk' => by have := hV k (by simpa using hk) hk'; simpa using this⟩
      have hp : (parts.map fun p => (p.1, a.eval p.2)).toList = parts.toList.map fun p => (p.1, a.eval p.2) := by simp
      rcases hk with ⟨fs, hu, hfs, hch⟩ | ⟨n, e, j, hu, hj, hch⟩
      · obtain ⟨cells', hfill, hr', h1'⟩ := fill_reads h _ parts.toList qs vs zv.cells z z' hch hvs hr h1 hf
        refine Does.val h hd (v := .agg cells') ?_ (V.agg _ _ hr'.len h1' hr'.get)
        have hm : (fs.mapM fun f => do pure (f.offset, ← sizeOf f.type) : Sem (Array (Nat × Nat))).run P w = .ok (fs.map fun f => (f.offset, P.cellsOf f.type)) w := by
          rw [Array.mapM_eq_mapM_toList, Sem.run_map, run_mapM (P := P) (w := w) _ (fun f : Field => (f.offset, P.cellsOf f.type)) fs.toList (fun f hf => by
            obtain ⟨j, hj⟩ := hfs f hf
            simp [Sem.run_bind, sizeOf, typeInfo, hj, Program.cellsOf])]
          simp only [Result.andThen_ok]
          congr 1
          exact Array.ext' (by simp)
        have hg : ∀ k : Nat, (fs.map fun f => (f.offset, P.cellsOf f.type))[k]? = (fs[k]?).map fun f => (f.offset, P.cellsOf f.type) := by intro k; simp
        unfold execOp
        simp only [ho, Instr.build, zeroValue, typeInfo, program, Sem.run_bind, Sem.run, hi, hz, Result.andThen_ok, Sem.run_pure, run_underlying hu, hm, hg, hp, hfill]
      · obtain ⟨cells', hfill, hr', h1'⟩ := fill_reads h _ parts.toList qs vs zv.cells z z' hch hvs hr h1 hf
        refine Does.val h hd (v := .agg cells') ?_ (V.agg _ _ hr'.len h1' hr'.get)
        unfold execOp
        simp only [ho, Instr.build, zeroValue, typeInfo, program, sizeOf, Sem.run_bind, Sem.run, hi, hz, hj, Result.andThen_ok, Sem.run_pure, run_underlying hu, hp, hfill]
  · cases hs
end
end Go.Pl

/-
  EACH OPERATION, THE LAST: slices that are made and that grow. My own work.
-/
import Derived.Test.YtcmejdkjfekoeaaPlOps6
namespace Go.Pl
open Go
set_option linter.unusedVariables false
section
variable {O A0 : Nat → Prop} {w0 w : World} {β : Bt} {s : PS} {a : Act} {P : Program}

/-- The world has grown, nothing that stood has turned. -/
theorem Sim.grow {tm : Nat → Value} (h : Sim O w0 A0 β s tm w) {w' : World} (hos : w'.os = w.os) (htape : w'.tape = w.tape) (hout : w'.output = w.output) (hsize : w.heap.size ≤ w'.heap.size)
    (hk : ∀ b, b < w.heap.size → w'.heap[b]? = w.heap[b]?) : Sim O w0 A0 β s tm w' := by
  have e : Ext w (Nn O β s.bx) w' (Nn O β s.bx) := ⟨hsize, fun b hb _ => hk b hb, fun b _ h => h⟩
  refine ⟨hos.trans h.os, htape.trans h.tape, hout.trans h.output, Nat.le_trans h.size hsize, fun b hb hn => ?_, fun i => ?_, fun d => ?_, h.inj, fun d p ho hp => ?_, h.outer⟩
  · rw [hk b (Nat.lt_of_lt_of_le hb h.size)]; exact h.keep b hb hn
  · exact (h.temps i).change e fun d => Compat.same fun q n ho hq hw => hw.of_eq (hk _ hw.lt)
  · have hb := h.boxes d
    cases hst : (s.bx d).st with
    | var cs =>
      rw [hst] at hb
      obtain ⟨b, base, hp, ho, hc⟩ := hb
      exact ⟨b, base, hp, ho.of_eq (hk _ ho.lt), hc.ext e (hk _ ho.lt)⟩
    | vfz cs =>
      rw [hst] at hb
      obtain ⟨b, base, hp, hlt, hN, hc⟩ := hb
      exact ⟨b, base, hp, Nat.lt_of_lt_of_le hlt hsize, hN, hc.ext e (hk _ hlt)⟩
    | sl sz es =>
      rw [hst] at hb
      refine ⟨hb.1, ?_⟩
      rcases hb.2 with hb | ⟨b, hp, ho, hc⟩
      · exact .inl hb
      · exact .inr ⟨b, hp, ho.of_eq (hk _ ho.lt), fun i hi => (hc i hi).ext e (hk _ ho.lt)⟩
    | dead => trivial
  · have := h.out d p ho hp
    exact ⟨this.1, Nat.lt_of_lt_of_le this.2.1 hsize, this.2.2⟩

theorem Sim.notNew {tm : Nat → Value} (h : Sim O w0 A0 β s tm w) {b : Nat} (hb : w.heap.size ≤ b) : ¬ Nn O β s.bx b := by
  rintro (hn | ⟨d, base, ho, hp⟩)
  · have := (h.outer b hn).1; have := h.size; omega
  · have := (h.out d _ ho hp).2.1; simp at this; omega

/-- flat cells that read as elements -/
structure Flat (w : World) (N : Nat → Prop) (arr : Array Value) (sz : Nat) (es : List (List CV)) : Prop where
  size : es.length * sz ≤ arr.size
  len : ∀ e ∈ es, e.length = sz
  one : ∀ e ∈ es, ∀ c ∈ e, c.one = true
  get : ∀ (i j : Nat) (hi : i < es.length) (hj : j < es[i].length), ∃ v, arr[i * sz + j]? = some v ∧ V w N v es[i][j]

theorem Flat.ext {w w' : World} {N N' : Nat → Prop} {arr : Array Value} {sz : Nat} {es : List (List CV)} (h : Flat w N arr sz es) (e : Ext w N w' N') : Flat w' N' arr sz es :=
  ⟨h.size, h.len, h.one, fun i j hi hj => by obtain ⟨v, hv, hV⟩ := h.get i j hi hj; exact ⟨v, hv, hV.ext e⟩⟩

theorem mul_succ_le {i n sz : Nat} (h : i < n) : i * sz + sz ≤ n * sz := by
  have := Nat.mul_le_mul_right sz h
  rw [Nat.succ_mul] at this
  exact this

/-- as a closed slice -/
theorem Flat.closed {N : Nat → Prop} {arr : Array Value} {sz b cap : Nat} {el : TypeId} {es : List (List CV)} (h : Flat w N arr sz es) (hb : w.heap[b]? = some (.cells arr el (0, 0))) (hN : ¬ N b) (hc : es.length ≤ cap) :
    V w N (.slice (some ⟨b, 0, none⟩) es.length cap) (.sl es) := by
  have hlt : b < w.heap.size := (Array.getElem?_eq_some_iff.1 hb).1
  refine V.sl b 0 cap sz es (fun i j => arr.getD (i * sz + j) undef) hlt hN h.len hc h.one ?_ ?_
  · intro i j hi hj
    obtain ⟨v, hv, hV⟩ := h.get i j hi hj
    simp only [World.cell?, hb, Nat.zero_add, Option.isSome_none, Bool.false_eq_true, if_false, Array.getD_eq_getD_getElem?, hv, Option.getD_some]
  · intro i j hi hj
    obtain ⟨v, hv, hV⟩ := h.get i j hi hj
    simpa only [Array.getD_eq_getD_getElem?, hv, Option.getD_some] using hV

/-- as a box -/
theorem Flat.box {N : Nat → Prop} {arr : Array Value} {sz b : Nat} {el : TypeId} {es : List (List CV)} (h : Flat w N arr sz es) (hb : w.heap[b]? = some (.cells arr el (0, 0))) : BR w N (some (b, 0)) (.sl sz es) := by
  refine ⟨h.len, .inr ⟨b, rfl, ⟨arr, el, hb, h.size⟩, fun i hi => ⟨h.one _ (List.getElem_mem hi), fun j hj => ?_⟩⟩⟩
  obtain ⟨v, hv, hV⟩ := h.get i j hi hj
  exact ⟨v, by simp only [World.cell?, hb, Option.isSome_none, Bool.false_eq_true, if_false, hv], hV⟩

theorem Flat.of_box {N : Nat → Prop} {sz b : Nat} {es : List (List CV)} (h : BR w N (some (b, 0)) (.sl sz es)) : ∃ arr el, w.heap[b]? = some (.cells arr el (0, 0)) ∧ Flat w N arr sz es := by
  obtain ⟨hz, h⟩ := h
  rcases h with ⟨hn, _⟩ | ⟨b', hp, ⟨arr, el, hb, hsz⟩, hc⟩
  · cases hn
  · obtain ⟨rfl, _⟩ := Prod.mk.inj (Option.some.inj hp)
    refine ⟨arr, el, hb, hsz, hz, fun e he c hce => ?_, fun i j hi hj => ?_⟩
    · obtain ⟨i, hi, rfl⟩ := List.mem_iff_getElem.1 he
      exact (hc i hi).1 c hce
    · obtain ⟨v, hv, hV⟩ := (hc i hi).2 j hj
      exact ⟨v, by simpa [World.cell?, hb] using hv, hV⟩

def chkPartsS : List (Nat × Operand) → List (Nat × PO) → Bool
  | [], [] => true
  | (i, x) :: l, (j, y) :: m => decide (i = j) && chkPO x y && chkPartsS l m
  | _, _ => false

theorem fillS_flat (h : Sim O w0 A0 β s (tmf a) w) {sz : Nat} (hsz : 0 < sz) : ∀ (ps : List (Nat × Operand)) (qs : List (Nat × PO)) (vs : List (Nat × CV)) (cells : Array Value) (z z' : List (List CV)),
    chkPartsS ps qs = true → partsS s qs = some vs → Flat w (Nn O β s.bx) cells sz z → fillS z vs = some z' →
    ∃ cells', Instr.fill (fun i => some (i * sz, sz)) cells (ps.map fun p => (p.1, a.eval p.2)) = some cells' ∧ Flat w (Nn O β s.bx) cells' sz z' ∧ z'.length = z.length ∧ cells'.size = cells.size
  | [], [], vs, cells, z, z', _, hp, hr, hf => by
    obtain rfl := Option.some.inj hp
    obtain rfl := Option.some.inj hf
    exact ⟨cells, rfl, hr, rfl, rfl⟩
  | [], _ :: _, _, _, _, _, hc, _, _, _ => by simp [chkPartsS] at hc
  | _ :: _, [], _, _, _, _, hc, _, _, _ => by simp [chkPartsS] at hc
  | (i, x) :: ps, (i', y) :: qs, vs, cells, z, z', hc, hp, hr, hf => by
    simp only [chkPartsS, Bool.and_eq_true, decide_eq_true_eq] at hc
    obtain ⟨⟨rfl, hx⟩, hrest⟩ := hc
    simp only [partsS] at hp
    split at hp
    · rename_i c hcv
      cases hpr : partsS s qs with
      | none => rw [hpr] at hp; cases hp
      | some vs' =>
        rw [hpr] at hp
        obtain rfl := Option.some.inj hp
        simp only [fillS] at hf
        split at hf
        · rename_i e he
          split at hf
          · rename_i hlen
            obtain ⟨hi, rfl⟩ := List.getElem?_eq_some_iff.1 he
            have hei : z[i].length = sz := hr.len _ (List.getElem_mem hi)
            have hV := evc_V h hx hcv
            obtain ⟨k1, k2, k3⟩ := hV.cells (by omega)
            have hmul := mul_succ_le (sz := sz) hi
            have hle : i * sz + (a.eval x).cells.size ≤ cells.size := by have := hr.size; omega
            obtain ⟨q1, q2⟩ := foldSetA (i * sz) (a.eval x).cells cells hle
            have hr' : Flat w (Nn O β s.bx) ((a.eval x).cells.zipIdx.foldl (fun cs (p : Value × Nat) => cs.setIfInBounds (i * sz + p.2) p.1) cells) sz (z.set i c.cells) := by
              refine ⟨by rw [q1, List.length_set]; exact hr.size, ?_, ?_, ?_⟩
              · intro e he
                rcases List.mem_or_eq_of_mem_set he with he | rfl
                · exact hr.len e he
                · omega
              · intro e he
                rcases List.mem_or_eq_of_mem_set he with he | rfl
                · exact hr.one e he
                · exact k2
              · intro p q hp hq
                have hp' : p < z.length := by simpa using hp
                by_cases e : p = i
                · subst e
                  simp only [List.getElem_set_self] at hq ⊢
                  refine ⟨(a.eval x).cells[q]'(by omega), ?_, k3 q (by omega) hq⟩
                  rw [q2, if_pos (by omega), show p * sz + q - p * sz = q by omega]
                  simp [show q < (a.eval x).cells.size by omega]
                · simp only [List.getElem_set_ne (Ne.symm e)] at hq ⊢
                  obtain ⟨v, hv, hV'⟩ := hr.get p q hp' hq
                  refine ⟨v, ?_, hV'⟩
                  have hzp : z[p].length = sz := hr.len _ (List.getElem_mem hp')
                  rw [q2, if_neg ?_]
                  · exact hv
                  · rcases Nat.lt_or_gt_of_ne e with hlt | hgt
                    · have := mul_succ_le (sz := sz) hlt; omega
                    · have := mul_succ_le (sz := sz) hgt; omega
            obtain ⟨cells', hf', hr'', hl', hs'⟩ := fillS_flat h hsz ps qs vs' _ _ z' hrest hpr hr' hf
            refine ⟨cells', ?_, hr'', by rw [hl', List.length_set], by rw [hs', q1]⟩
            simp only [List.map_cons, Instr.fill]
            rw [if_neg (by simp; omega)]
            exact hf'
          · cases hf
        · cases hf
    · cases hp

theorem zero_flat {N : Nat → Prop} {zc : List CV} {zv : Value} {sz len : Nat} (hc : chkL zv.cells.toList zc = true) (hl : zc.length = sz) (hsz : 0 < sz) :
    Flat w N ((Array.range (len * sz)).map fun k => zv.cells[k % zv.cells.size]!) sz (List.replicate len zc) := by
  obtain ⟨h1, h2, h3⟩ := chkL_V (w := w) (N := N) hc
  have hs : zv.cells.size = sz := by simp at h1; omega
  refine ⟨by simp, fun e he => by rw [List.eq_of_mem_replicate he]; exact hl, fun e he => by rw [List.eq_of_mem_replicate he]; exact h2, fun i j hi hj => ?_⟩
  simp only [List.getElem_replicate] at hj ⊢
  have hi' : i < len := by simpa using hi
  have hmul := mul_succ_le (sz := sz) hi'
  refine ⟨zv.cells[j]'(by omega), ?_, by have := h3 j (by simp; omega) hj; simpa using this⟩
  simp only [Array.getElem?_map, Array.getElem?_range]
  rw [if_pos (by omega)]
  simp only [Option.map_some, hs]
  rw [show (i * sz + j) % sz = j by rw [Nat.add_comm, Nat.add_mul_mod_self_right, Nat.mod_eq_of_lt (by omega)]]
  rw [getElem!_pos zv.cells j (by omega)]

theorem run_buildSlice (h : Sim O w0 A0 β s (tmf a) w) {o : Oper} {t e : TypeId} {len sz : Nat} {parts : Array (Nat × Operand)} {zc : List CV} {qs : List (Nat × PO)} {i : TypeInfo} {zv : Value} (ho : o.op = .buildSlice t len parts)
    (hu : P.underlying t = some (.slice e)) (hi : P.info? e = some i) (hisz : i.size = sz) (hsz : 0 < sz) (hbig : len * sz ≤ 2 ^ 24) (hz : i.zero = some zv) (hzc : chkL zv.cells.toList zc = true) (hzl : zc.length = sz) (hp : chkPartsS parts.toList qs = true)
    {vs : List (Nat × CV)} {es : List (List CV)} (hvs : partsS s qs = some vs) (hf : fillS (List.replicate len zc) vs = some es) :
    ∃ cells, (execOp a.eval o).run P w = .ok (.value (.slice (some ⟨w.heap.size, 0, none⟩) es.length es.length)) (w.alloc (.cells cells e)) ∧ Flat w (Nn O β s.bx) cells sz es ∧ cells.size = es.length * sz := by
  obtain ⟨cells, hfill, hflat, hl, hsize⟩ := fillS_flat h hsz parts.toList qs vs _ _ es hp hvs (zero_flat (len := len) hzc hzl hsz) hf
  have hlen : es.length = len := by simpa using hl
  have hpl : (parts.map fun p => (p.1, a.eval p.2)).toList = parts.toList.map fun p => (p.1, a.eval p.2) := by simp
  refine ⟨cells, ?_, hflat, by rw [hsize, hlen]; simp⟩
  unfold execOp
  by_cases h0 : len * sz = 0
  · have hnil : ∀ (f : Nat → Value), (Array.range 0).map f = #[] := fun f => by simp
    rw [h0, hnil] at hfill
    simp only [ho, Instr.buildSlice, sizeOf, typeInfo, program, Sem.run_bind, Sem.run, run_underlying hu, hi, hisz, Result.andThen_ok, Sem.run_pure, h0, if_true, hnil, hpl, hfill, newRow, newObj, hlen]
    rfl
  · simp only [ho, Instr.buildSlice, sizeOf, typeInfo, zeroValue, program, Sem.run_bind, Sem.run, run_underlying hu, hi, hisz, Result.andThen_ok, Sem.run_pure, if_neg (show ¬ len * sz > 2 ^ 24 by omega), if_neg h0, hz, hpl, hfill, newRow, newObj, hlen]
    rfl

theorem ok_bsl {o : Oper} {t e : TypeId} {len sz : Nat} {parts : Array (Nat × Operand)} {zc : List CV} {qs : List (Nat × PO)} {i : TypeInfo} {zv : Value} {own : Bool} (ho : o.op = .buildSlice t len parts) (h : Sim O w0 A0 β s (tmf a) w) (hd : dstOk o.dst a.tmps.size)
    (hu : P.underlying t = some (.slice e)) (hi : P.info? e = some i) (hisz : i.size = sz) (hsz : 0 < sz) (hbig : len * sz ≤ 2 ^ 24) (hz : i.zero = some zv) (hzc : chkL zv.cells.toList zc = true) (hzl : zc.length = sz) (hp : chkPartsS parts.toList qs = true)
    {s' : PS} (hs : pstep o.dst s (.bsl sz len zc qs own) = some s') : Does P o O A0 w0 a w s' := by
  simp only [pstep] at hs
  split at hs
  · rename_i vs hvs
    split at hs
    · rename_i es hf
      obtain rfl := Option.some.inj hs
      obtain ⟨cells, hrun, hflat, hcs⟩ := run_buildSlice h ho hu hi hisz hsz hbig hz hzc hzl hp hvs hf
      have hk : ∀ b, b < w.heap.size → (w.alloc (.cells cells e)).heap[b]? = w.heap[b]? := fun b hb => by
        show (w.heap.push _)[b]? = _; rw [Array.getElem?_push, if_neg (by omega)]
      have hsize : (w.alloc (.cells cells e)).heap.size = w.heap.size + 1 := Array.size_push _
      have hb : (w.alloc (.cells cells e)).heap[w.heap.size]? = some (.cells cells e (0, 0)) := by
        show (w.heap.push _)[w.heap.size]? = _; simp
      have hg := h.grow (w' := w.alloc (.cells cells e)) rfl rfl rfl (by omega) hk
      have hN : ¬ Nn O β s.bx w.heap.size := h.notNew (Nat.le_refl _)
      refine ⟨_, _, _, β, hrun, .inl rfl, hg.putO _ hd _ _ ?_⟩
      exact (hflat.ext ⟨by omega, fun b hb _ => hk b hb, fun b _ h => h⟩).closed hb hN (Nat.le_refl _)
    · rename_i es d hf hdst
      obtain rfl := Option.some.inj hs
      obtain ⟨cells, hrun, hflat, hcs⟩ := run_buildSlice h ho hu hi hisz hsz hbig hz hzc hzl hp hvs hf
      have hb : (w.alloc (.cells cells e)).heap[w.heap.size]? = some (.cells cells e (0, 0)) := by
        show (w.heap.push _)[w.heap.size]? = _; simp
      refine ⟨_, _, _, fun i => if i = d then some (w.heap.size, 0) else β i, hrun, .inl rfl, ?_⟩
      rw [hdst]
      refine sim_new h (hd _ hdst) cells e _ _ _ (Nat.lt_succ_self _) ?_ ?_
      · intro N he
        exact (hflat.ext he).box hb
      · intro N β' bx' hβ hbx
        refine ⟨by rw [hbx]; exact Nat.le_refl _, fun _ sz' es' hst => ⟨rfl, .inr ⟨w.heap.size, es.length, hβ, rfl, Nat.le_refl _, cells, e, hb, ?_⟩⟩⟩
        rw [hbx] at hst
        cases hst
        omega
    · cases hs
  · cases hs

theorem ok_own0 {o : Oper} {x : Operand} {sz d : Nat} (ho : o.op = .move x ∨ o.op = .assign x) (hx : chkPO x (.k (.sl [])) = true) (h : Sim O w0 A0 β s (tmf a) w) (hdst : o.dst = some d) (hd : d < a.tmps.size)
    {s' : PS} (hs : pstep o.dst s (.own0 sz) = some s') : Does P o O A0 w0 a w s' := by
  simp only [pstep, hdst] at hs
  obtain rfl := Option.some.inj hs
  have hv : a.eval x = .slice none 0 0 := by
    cases x with
    | const v =>
      simp only [chkPO, chkV] at hx
      cases v <;> simp [chk1] at hx ⊢
      rename_i p l c
      cases p <;> cases l <;> cases c <;> simp [chk1] at hx ⊢ <;> simp [Act.eval]
    | tmp t => cases hx
    | global g => cases hx
    | func f => cases hx
  refine ⟨.value (a.eval x), a.eval x, w, fun i => if i = d then none else β i, ?_, .inl rfl, ?_⟩
  · unfold execOp
    rcases ho with ho | ho <;> simp only [ho, Sem.run_pure]
  · rw [hdst, tmf_put _ hd, hv]
    refine (h.change (w' := w) d none ⟨(s.bx d).ver + 1, .sl sz []⟩ rfl rfl rfl (Nat.le_refl _) (fun b _ _ => rfl) (.inl (Nat.lt_succ_self _)) (fun p _ hp => by cases hp) ⟨by simp, .inl ⟨rfl, rfl⟩⟩).put d _ _ ?_
    exact ⟨by simp [PS.box], fun _ sz' es' hs => ⟨rfl, .inl ⟨by simp, rfl, rfl⟩⟩⟩
end
end Go.Pl

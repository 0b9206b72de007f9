/-
  EACH OPERATION, GOES ON: new variables, stores, numbers, addresses. My own work.
-/
import Derived.Test.YtcmejdkjfekoeaaPlOps
import Derived.Laws.Build
namespace Go.Pl
open Go
set_option linter.unusedVariables false
section
variable {O A0 : Nat → Prop} {w0 w : World} {β : Bt} {s : PS} {a : Act} {P : Program}

theorem Does.skip {o : Oper} (hdst : o.dst = none) {w' : World} {β' : Bt} {s' : PS} (hr : (execOp a.eval o).run P w = .ok .skip w') (h : Sim O w0 A0 β' s' (tmf a) w') : Does P o O A0 w0 a w s' :=
  ⟨.skip, undef, w', β', hr, .inr ⟨rfl, rfl⟩, by rw [hdst]; exact h⟩

/-- new cells read as what was put into them -/
theorem cellsAt_new (N : Nat → Prop) (cells : Array Value) (el : TypeId) (cs : List CV) (hl : cells.size = cs.length) (h1 : ∀ c ∈ cs, c.one = true)
    (hV : ∀ (j : Nat) (h1 : j < cells.size) (h2 : j < cs.length), V (w.alloc (.cells cells el)) N cells[j] cs[j]) :
    OwnB (w.alloc (.cells cells el)) w.heap.size cs.length ∧ CellsAt (w.alloc (.cells cells el)) N w.heap.size 0 cs := by
  have hb : (w.alloc (.cells cells el)).heap[w.heap.size]? = some (.cells cells el (0, 0)) := by
    show (w.heap.push _)[w.heap.size]? = _
    simp
  refine ⟨⟨cells, el, hb, by omega⟩, h1, fun j hj => ⟨cells[j], ?_, hV j (by omega) hj⟩⟩
  simp only [World.cell?, hb]
  simp [show j < cells.size by omega]

theorem ok_alloc {o : Oper} {el : TypeId} {z : List CV} {i : TypeInfo} {zv : Value} {d : Nat} (ho : o.op = .alloc el) (h : Sim O w0 A0 β s (tmf a) w) (hdst : o.dst = some d) (hd : d < a.tmps.size)
    (hi : P.info? el = some i) (hz : i.zero = some zv) (hc : chkL zv.cells.toList z = true) {s' : PS}
    (hs : pstep o.dst s (.alloc z) = some s') : Does P o O A0 w0 a w s' := by
  simp only [pstep, hdst] at hs
  obtain rfl := Option.some.inj hs
  refine ⟨.value (.pointer (some ⟨w.heap.size, 0, none⟩)), _, w.alloc (.cells zv.cells el), fun i => if i = d then some (w.heap.size, 0) else β i, ?_, .inl rfl, ?_⟩
  · unfold execOp
    simp only [ho, Instr.alloc, zeroValue, typeInfo, program, newVar, newRow, newObj, Sem.run_bind, Sem.run, hi, hz, Result.andThen_ok, Sem.run_pure]
    rfl
  · rw [hdst]
    refine sim_new h hd zv.cells el _ _ _ (Nat.lt_succ_self _) ?_ ?_
    · intro N he
      obtain ⟨hl, h1, hV⟩ := chkL_V (w := w.alloc (.cells zv.cells el)) (N := N) hc
      obtain ⟨h2, h3⟩ := cellsAt_new N zv.cells el z (by simpa using hl) h1 (fun j h1 h2 => by have := hV j (by simpa using h1) h2; simpa using this)
      exact ⟨w.heap.size, 0, rfl, by simpa using h2, h3⟩
    · intro N β' bx' hβ hb
      exact ⟨by rw [hb]; exact Nat.le_refl _, fun _ cs hcs => ⟨w.heap.size, 0, hβ, rfl⟩⟩

theorem ok_box {o : Oper} {el : TypeId} {x : Operand} {y : PO} {n d : Nat} (ho : o.op = .box el x) (h : Sim O w0 A0 β s (tmf a) w) (hdst : o.dst = some d) (hd : d < a.tmps.size)
    (hc : chkPO x y = true) (hn : 0 < n) {s' : PS} (hs : pstep o.dst s (.box n y) = some s') : Does P o O A0 w0 a w s' := by
  simp only [pstep, hdst] at hs
  split at hs
  · rename_i e v he hv
    obtain rfl := Option.some.inj he
    split at hs
    · rename_i hlen
      obtain rfl := Option.some.inj hs
      have hV := evc_V h hc hv
      refine ⟨.value (.pointer (some ⟨w.heap.size, 0, none⟩)), _, w.alloc (.cells (a.eval x).cells el), fun i => if i = d then some (w.heap.size, 0) else β i, ?_, .inl rfl, ?_⟩
      · unfold execOp
        simp only [ho, Instr.box, newVar, newRow, newObj, Sem.run_bind, Sem.run, Result.andThen_ok, Sem.run_pure]
        rfl
      · rw [hdst]
        refine sim_new h hd _ el _ _ _ (Nat.lt_succ_self _) ?_ ?_
        · intro N he
          obtain ⟨h1, h2, h3⟩ := V.cells (hV.ext he) (by omega)
          obtain ⟨h4, h5⟩ := cellsAt_new N (a.eval x).cells el v.cells h1 h2 h3
          exact ⟨w.heap.size, 0, rfl, by simpa using h4, h5⟩
        · intro N β' bx' hβ hb
          exact ⟨by rw [hb]; exact Nat.le_refl _, fun _ cs hcs => ⟨w.heap.size, 0, hβ, rfl⟩⟩
    · cases hs
  · cases hs

/-- a store of cells into the frame's own block: the world behind it -/
theorem run_store_cells {b off : Nat} {arr : Array Value} {el t : TypeId} {i : TypeInfo} {v : Value} (hb : w.heap[b]? = some (.cells arr el (0, 0))) (hi : P.info? t = some i) (hn : v.cells.size = i.size)
    (hl : off + v.cells.size ≤ arr.size) (h1 : ∀ x ∈ v.cells.toList, x.oneCell' = true) :
    (Instr.storeAt t (.pointer (some ⟨b, off, none⟩)) v).run P w = .ok () (w.setRow b (arr.toList.take off ++ v.cells.toList ++ arr.toList.drop (off + v.cells.size)).toArray) := by
  have := run_storeCells_at (P := P) b off el v.cells.toList 0 arr w hb (by simpa using hl) h1
  simp only [Nat.add_zero, Array.length_toList] at this
  simp [Instr.storeAt, Instr.sureAddr, storeVar, sizeOf, typeInfo, program, Sem.run_bind, Sem.run, hi, hn]
  simpa [hn] using this

theorem spl_length {cs new : List CV} {off : Nat} (h : off + new.length ≤ cs.length) : (spl cs off new).length = cs.length := by
  simp [spl]; omega
theorem spl_get? {cs new : List CV} {off : Nat} (h : off + new.length ≤ cs.length) (j : Nat) :
    (spl cs off new)[j]? = if off ≤ j ∧ j < off + new.length then new[j - off]? else cs[j]? := by
  have ht : (cs.take off).length = off := by simp; omega
  unfold spl
  split
  · rename_i h1
    rw [List.getElem?_append_right (by omega), List.getElem?_append_left (by omega), ht]
  · rename_i h1
    by_cases h2 : j < off
    · rw [List.getElem?_append_left (by omega), List.getElem?_take, if_pos h2]
    · rw [List.getElem?_append_right (by omega), List.getElem?_append_right (by omega), List.getElem?_drop, ht]
      congr 1
      omega
theorem spl_get {cs new : List CV} {off : Nat} (h : off + new.length ≤ cs.length) (j : Nat) (hj : j < (spl cs off new).length) :
    (spl cs off new)[j] = if h1 : off ≤ j ∧ j < off + new.length then new[j - off]'(by omega) else cs[j]'(by rw [spl_length h] at hj; exact hj) := by
  have hj' : j < cs.length := by rw [spl_length h] at hj; exact hj
  have := spl_get? h j
  rw [List.getElem?_eq_getElem hj] at this
  split at this
  · rename_i h1
    rw [List.getElem?_eq_getElem (by omega)] at this
    rw [dif_pos h1]; exact Option.some.inj this
  · rename_i h1
    rw [List.getElem?_eq_getElem hj'] at this
    rw [dif_neg h1]; exact Option.some.inj this

/-- cells behind a write into their block -/
theorem cellsAt_write {N N' : Nat → Prop} {b base off : Nat} {arr : Array Value} {el : TypeId} {cs : List CV} {v : Value} {c : CV} (hb : w.heap[b]? = some (.cells arr el (0, 0)))
    (hsz : base + cs.length ≤ arr.size) (hcs : CellsAt w N b base cs) (hV : V w N v c) (hn : 0 < c.cells.length) (hl : off + c.cells.length ≤ cs.length)
    (he : Ext w N (w.setRow b (arr.toList.take (base + off) ++ v.cells.toList ++ arr.toList.drop (base + off + v.cells.size)).toArray) N') :
    CellsAt (w.setRow b (arr.toList.take (base + off) ++ v.cells.toList ++ arr.toList.drop (base + off + v.cells.size)).toArray) N' b base (spl cs off c.cells) := by
  obtain ⟨h1, h2, h3⟩ := hV.cells hn
  refine ⟨?_, ?_⟩
  · intro x hx
    simp only [spl, List.mem_append] at hx
    rcases hx with hx | hx | hx
    · exact hcs.1 x (List.mem_of_mem_take hx)
    · exact h2 x hx
    · exact hcs.1 x (List.mem_of_mem_drop hx)
  · intro j hj
    have hj' : j < cs.length := by rw [spl_length hl] at hj; exact hj
    have hcell : ∀ k : Nat, (w.setRow b (arr.toList.take (base + off) ++ v.cells.toList ++ arr.toList.drop (base + off + v.cells.size)).toArray).cell? ⟨b, k, none⟩ =
        (arr.toList.take (base + off) ++ v.cells.toList ++ arr.toList.drop (base + off + v.cells.size))[k]? := by
      intro k
      simp [World.cell?, setRow_heap w b arr _ el _ hb]
    rw [hcell, spl_get hl j hj]
    obtain ⟨u, hu, hU⟩ := hcs.2 j hj'
    have hu' : arr[base + j]? = some u := by simpa [World.cell?, hb] using hu
    split
    · rename_i hin
      have hk : j - off < v.cells.size := by omega
      refine ⟨v.cells[j - off], ?_, (h3 (j - off) hk (by omega)).ext he⟩
      rw [List.append_assoc, List.getElem?_append_right (by simp; omega), List.getElem?_append_left (by simp; omega)]
      simp only [List.length_take, Array.length_toList]
      rw [show base + j - min (base + off) arr.size = j - off by omega]
      simp [hk]
    · rename_i hin
      refine ⟨u, ?_, hU.ext he⟩
      by_cases h2 : j < off
      · rw [List.append_assoc, List.getElem?_append_left (by simp; omega)]
        simp only [List.getElem?_take, Array.getElem?_toList]
        rw [if_pos (by omega)]
        exact hu'
      · rw [List.getElem?_append_right (by simp; omega)]
        simp only [List.length_append, List.length_take, Array.length_toList, List.getElem?_drop, Array.getElem?_toList]
        rw [show base + off + v.cells.size + (base + j - (min (base + off) arr.size + v.cells.size)) = base + j by omega]
        exact hu'

theorem write_size {arr : Array Value} {k : Nat} {v : Value} (h : k + v.cells.size ≤ arr.size) :
    (arr.toList.take k ++ v.cells.toList ++ arr.toList.drop (k + v.cells.size)).toArray.size = arr.size := by
  simp; omega

theorem ok_store {o : Oper} {t : TypeId} {x y : Operand} {x' y' : PO} {n : Nat} {av : List Nat} {i : TypeInfo} (ho : o.op = .store t x y) (h : Sim O w0 A0 β s (tmf a) w) (hdst : o.dst = none)
    (hx : chkPO x x' = true) (hy : chkPO y y' = true) (hi : P.info? t = some i) (hin : i.size = n) (hn : 0 < n) {s' : PS} (hs : pstep o.dst s (.store n x' y' av) = some s') : Does P o O A0 w0 a w s' := by
  have hR := ev_R h hx
  simp only [pstep] at hs
  split at hs
  · -- a variable
    rename_i d ver off v hp hv
    have hV := evc_V h hy hv
    rw [hp] at hR
    split at hs
    · cases hs
    split at hs
    · rename_i u cs hb
      split at hs
      · rename_i hcond
        obtain ⟨rfl, hlen, hl⟩ := hcond
        obtain rfl := Option.some.inj hs
        obtain ⟨b, base, hβ, he⟩ := hR.2 (by rw [hb]) cs (.inl (by rw [hb]))
        have hB := h.boxes d
        rw [hb] at hB
        obtain ⟨b', base', hp', hown, hcs⟩ := hB
        rw [hβ] at hp'
        obtain ⟨rfl, rfl⟩ := Prod.mk.inj (Option.some.inj hp')
        obtain ⟨arr, el, hheap, hsz⟩ := hown
        obtain ⟨h1, h2, h3⟩ := hV.cells (by omega)
        have hrun := run_store_cells (P := P) (t := t) (i := i) (v := a.eval y) (off := base + off) hheap hi (by omega) (by omega)
          (fun q hq => by obtain ⟨k, hk, rfl⟩ := List.mem_iff_getElem.1 hq; have := (h3 k (by simpa using hk) (by simp at hk; omega)).oneCell (h2 _ (List.getElem_mem _)); simpa using this)
        have howned : (s.bx d).st.owned = true := by rw [hb]; rfl
        have hbr := h.change (w' := w.setRow b _) d (some (b, base)) ⟨u, .var (spl cs off v.cells)⟩ rfl rfl rfl (by rw [setRow_size]; exact Nat.le_refl _)
          (fun k hk hne => setRow_other w b k (arr.toList.take (base + off) ++ (a.eval y).cells.toList ++ arr.toList.drop (base + off + (a.eval y).cells.size)).toArray (hne _ howned hβ))
          (.inr ⟨by rw [hb], .inr ⟨hβ.symm, fun cs' _ => ⟨cs, by rw [hb]⟩, fun cs' hcs' => (by cases hcs'), fun sz es hs => (by cases hs)⟩⟩)
          (fun p _ hp => .inl ⟨howned, (b, base), hβ, by have := Option.some.inj hp; rw [← this]⟩)
          (by
            refine ⟨b, base, rfl, ⟨_, el, setRow_heap w b arr _ el _ hheap, ?_⟩, ?_⟩
            · rw [spl_length (by omega), write_size (by omega)]; exact hsz
            · refine cellsAt_write hheap hsz hcs hV (by omega) (by omega) ⟨by rw [setRow_size]; exact Nat.le_refl _, fun k hk hN => setRow_other w b k _ ?_, fun k hk hN => ?_⟩
              · exact fun e => hN (.inr ⟨d, base, howned, by rw [hβ, e]⟩)
              · rcases hN with hN | ⟨q, base', hq, hq'⟩
                · exact .inl hN
                · by_cases e : q = d
                  · subst e; simp only [if_true] at hq'; exact .inr ⟨q, base', howned, by rw [hβ]; exact hq'⟩
                  · simp only [if_neg e] at hq hq'; exact .inr ⟨q, base', hq, hq'⟩)
        refine Does.skip hdst ?_ hbr
        unfold execOp
        simp only [ho, he, Sem.run_bind, hrun, Result.andThen_ok, Sem.run_pure]
      · cases hs
    · cases hs
  · -- an element of a slice
    rename_i d ver k off v hp hv
    have hV := evc_V h hy hv
    rw [hp] at hR
    split at hs
    · cases hs
    split at hs
    · rename_i u sz es hb
      split at hs
      · rename_i e he'
        split at hs
        · rename_i hcond
          obtain ⟨rfl, hlen, hl⟩ := hcond
          obtain rfl := Option.some.inj hs
          obtain ⟨b, hβ, he⟩ := hR.2 (by rw [hb]) sz es (by rw [hb])
          have hB := h.boxes d
          rw [hb] at hB
          obtain ⟨hz, hB⟩ := hB
          rcases hB with ⟨hnone, _⟩ | ⟨b', hp', hown, hcs⟩
          · rw [hβ] at hnone; cases hnone
          rw [hβ] at hp'
          obtain ⟨rfl, _⟩ := Prod.mk.inj (Option.some.inj hp')
          obtain ⟨hk, rfl⟩ := List.getElem?_eq_some_iff.1 he'
          obtain ⟨arr, el, hheap, hsz⟩ := hown
          have hek : es[k].length = sz := hz _ (List.getElem_mem _)
          have hmul : k * sz + sz ≤ es.length * sz := by
            have : (k + 1) * sz ≤ es.length * sz := Nat.mul_le_mul_right _ hk
            rw [Nat.add_mul, Nat.one_mul] at this; exact this
          obtain ⟨h1, h2, h3⟩ := hV.cells (by omega)
          have hrun := run_store_cells (P := P) (t := t) (i := i) (v := a.eval y) (off := k * sz + off) hheap hi (by omega) (by omega)
            (fun q hq => by obtain ⟨k, hk, rfl⟩ := List.mem_iff_getElem.1 hq; have := (h3 k (by simpa using hk) (by simp at hk; omega)).oneCell (h2 _ (List.getElem_mem _)); simpa using this)
          have howned : (s.bx d).st.owned = true := by rw [hb]; rfl
          have hext : ∀ N' : Nat → Prop, (∀ q, q < w.heap.size → N' q → Nn O β s.bx q) → Ext w (Nn O β s.bx) (w.setRow b (arr.toList.take (k * sz + off) ++ (a.eval y).cells.toList ++ arr.toList.drop (k * sz + off + (a.eval y).cells.size)).toArray) N' :=
            fun N' hN' => ⟨by rw [setRow_size]; exact Nat.le_refl _, fun q hq hN => setRow_other w b q _ (fun e => hN (.inr ⟨d, 0, howned, by rw [hβ, e]⟩)), hN'⟩
          have hbr := h.change (w' := w.setRow b _) d (some (b, 0)) ⟨u, .sl sz (es.set k (spl es[k] off v.cells))⟩ rfl rfl rfl (by rw [setRow_size]; exact Nat.le_refl _)
            (fun k' hk hne => setRow_other w b k' (arr.toList.take (k * sz + off) ++ (a.eval y).cells.toList ++ arr.toList.drop (k * sz + off + (a.eval y).cells.size)).toArray (hne _ howned hβ))
            (.inr ⟨by rw [hb], .inr ⟨hβ.symm, fun cs' hcs' => (by cases hcs'), fun cs' hcs' => (by cases hcs'), fun sz' es' hs => ⟨⟨es, by rw [hb]; cases hs; rfl⟩, fun q n hq hw => by
              rw [hβ] at hq
              obtain rfl := Option.some.inj hq
              obtain ⟨arr', el', h1', h2'⟩ := hw
              rw [hheap] at h1'
              cases h1'
              exact ⟨_, el, setRow_heap w b arr _ el _ hheap, by rw [write_size (by omega)]; exact h2'⟩⟩⟩⟩)
            (fun p _ hp => .inl ⟨howned, (b, 0), hβ, by have := Option.some.inj hp; rw [← this]⟩)
            (by
              have hN' : ∀ q, q < w.heap.size → Nn O (fun i => if i = d then some (b, 0) else β i) (fun i => if i = d then ⟨u, .sl sz (es.set k (spl es[k] off v.cells))⟩ else s.bx i) q → Nn O β s.bx q := by
                intro q hq hN
                rcases hN with hN | ⟨r, base', hr, hr'⟩
                · exact .inl hN
                · by_cases e : r = d
                  · subst e; simp only [if_true] at hr'; exact .inr ⟨r, base', howned, by rw [hβ]; exact hr'⟩
                  · simp only [if_neg e] at hr hr'; exact .inr ⟨r, base', hr, hr'⟩
              refine ⟨?_, .inr ⟨b, rfl, ⟨_, el, setRow_heap w b arr _ el _ hheap, ?_⟩, ?_⟩⟩
              · intro e he
                rcases List.mem_or_eq_of_mem_set he with he | rfl
                · exact hz e he
                · rw [spl_length (by omega)]; exact hek
              · rw [write_size (by omega), List.length_set]; exact hsz
              · intro j hj
                have hj' : j < es.length := by simpa using hj
                have hjm : j * sz + sz ≤ es.length * sz := by
                  have : (j + 1) * sz ≤ es.length * sz := Nat.mul_le_mul_right _ hj'
                  rw [Nat.add_mul, Nat.one_mul] at this; exact this
                by_cases e : j = k
                · subst e
                  simp only [List.getElem_set_self]
                  exact cellsAt_write hheap (by omega) (hcs j hj') hV (by omega) (by omega) (hext _ hN')
                · simp only [List.getElem_set_ne (Ne.symm e)]
                  have hc := hcs j hj'
                  have hjl : es[j].length = sz := hz _ (List.getElem_mem _)
                  refine ⟨hc.1, fun m hm => ?_⟩
                  obtain ⟨u', hu, hU⟩ := hc.2 m hm
                  refine ⟨u', ?_, hU.ext (hext _ hN')⟩
                  have hu' : arr[j * sz + m]? = some u' := by simpa [World.cell?, hheap] using hu
                  have hcell : (w.setRow b (arr.toList.take (k * sz + off) ++ (a.eval y).cells.toList ++ arr.toList.drop (k * sz + off + (a.eval y).cells.size)).toArray).cell? ⟨b, j * sz + m, none⟩ =
                      (arr.toList.take (k * sz + off) ++ (a.eval y).cells.toList ++ arr.toList.drop (k * sz + off + (a.eval y).cells.size))[j * sz + m]? := by
                    simp [World.cell?, setRow_heap w b arr _ el _ hheap]
                  rw [hcell]
                  rcases Nat.lt_or_gt_of_ne e with hlt | hgt
                  · have : (j + 1) * sz ≤ k * sz := Nat.mul_le_mul_right _ hlt
                    rw [Nat.add_mul, Nat.one_mul] at this
                    rw [List.append_assoc, List.getElem?_append_left (by simp; omega)]
                    simp only [List.getElem?_take, Array.getElem?_toList]
                    rw [if_pos (by omega)]
                    exact hu'
                  · have : (k + 1) * sz ≤ j * sz := Nat.mul_le_mul_right _ hgt
                    rw [Nat.add_mul, Nat.one_mul] at this
                    rw [List.getElem?_append_right (by simp; omega)]
                    simp only [List.length_append, List.length_take, Array.length_toList, List.getElem?_drop, Array.getElem?_toList]
                    rw [show k * sz + off + (a.eval y).cells.size + (j * sz + m - (min (k * sz + off) arr.size + (a.eval y).cells.size)) = j * sz + m by omega]
                    exact hu')
          refine Does.skip hdst ?_ hbr
          unfold execOp
          simp only [ho, he, Sem.run_bind, hrun, Result.andThen_ok, Sem.run_pure]
        · cases hs
      · cases hs
    · cases hs
  · cases hs
end
end Go.Pl

/-
  append: to a slice of the frame's own. My own work.
-/
import Derived.Test.YtcmejdkjfekoeaaPlOps7
import Derived.Laws.NewFold
namespace Go.Pl
open Go
set_option linter.unusedVariables false
section
variable {O A0 : Nat → Prop} {w0 w : World} {β : Bt} {s : PS} {a : Act} {P : Program}

/-- the cells of a closed slice -/
theorem run_first {N : Nat → Prop} {v : Value} {ys : List (List CV)} {sz : Nat} (hV : V w N v (.sl ys)) (hsz : 0 < sz) (hw : ∀ e ∈ ys, e.length = sz) :
    (∃ n c, ∃ b, v = .slice b n c ∧ n = ys.length) ∧ ∃ cells, (Builtin.firstCells sz ys.length v).run P w = .ok cells w ∧ Flat w N cells sz ys ∧ cells.size = ys.length * sz ∧ ∀ x ∈ cells.toList, x.oneCell' = true := by
  cases hV with
  | nil => exact ⟨⟨0, 0, none, rfl, rfl⟩, #[], rfl, ⟨by simp, by simp, by simp, fun i j hi => by simp at hi⟩, by simp, by simp⟩
  | emp b cap => exact ⟨⟨0, cap, some b, rfl, rfl⟩, #[], by simp [Builtin.firstCells, loadCells, loadCellsFrom, Sem.run_pure], ⟨by simp, by simp, by simp, fun i j hi => by simp at hi⟩, by simp, by simp⟩
  | sl b off cap sz' _ c hb hN hz hcap h1 hread hVV =>
    refine ⟨⟨_, _, _, rfl, rfl⟩, _, run_loadCells (P := P) w ⟨b, off, none⟩ (ys.length * sz) (fun j => c (j / sz) (j % sz)) ?_, ?_, by simp, ?_⟩
    · intro j hj
      have hi : j / sz < ys.length := by rw [Nat.div_lt_iff_lt_mul hsz]; exact hj
      have hl : ys[j / sz].length = sz := hw _ (List.getElem_mem hi)
      have := hread (j / sz) (j % sz) hi (by rw [hl]; exact Nat.mod_lt _ hsz)
      rw [Addr.add_mid, ← this]
      have hzz : sz' = sz := by rw [← hz _ (List.getElem_mem hi), hl]
      rw [hzz, Nat.mul_comm (j / sz) sz, Nat.div_add_mod]
    · refine ⟨by simp, hw, h1, fun i j hi hj => ⟨c i j, ?_, hVV i j hi hj⟩⟩
      have hl : ys[i].length = sz := hw _ (List.getElem_mem hi)
      have hmul := mul_succ_le (sz := sz) hi
      simp only [List.getElem?_toArray, List.getElem?_map, List.getElem?_range (show i * sz + j < ys.length * sz by omega), Option.map_some]
      rw [show (i * sz + j) / sz = i by rw [Nat.add_comm, Nat.add_mul_div_right _ _ hsz, Nat.div_eq_of_lt (by omega)]; omega, show (i * sz + j) % sz = j by rw [Nat.add_comm, Nat.add_mul_mod_self_right, Nat.mod_eq_of_lt (by omega)]]
    · intro x hx
      simp only [List.mem_map, List.mem_range] at hx
      obtain ⟨j, hj, rfl⟩ := hx
      have hi : j / sz < ys.length := by rw [Nat.div_lt_iff_lt_mul hsz]; exact hj
      have hl : ys[j / sz].length = sz := hw _ (List.getElem_mem hi)
      have hjj : j % sz < ys[j / sz].length := by rw [hl]; exact Nat.mod_lt _ hsz
      exact (hVV _ _ hi hjj).oneCell (h1 _ (List.getElem_mem hi) _ (List.getElem_mem hjj))

/-- elements behind elements -/
theorem Flat.append {N : Nat → Prop} {arr new : Array Value} {sz : Nat} {es ys : List (List CV)} (h : Flat w N arr sz es) (k : Flat w N new sz ys) (hn : new.size = ys.length * sz) {out : Array Value}
    (hs : es.length * sz + ys.length * sz ≤ out.size) (h1 : ∀ m, m < es.length * sz → out[m]? = arr[m]?) (h2 : ∀ m, m < ys.length * sz → out[es.length * sz + m]? = new[m]?) : Flat w N out sz (es ++ ys) := by
  refine ⟨by rw [List.length_append, Nat.add_mul]; exact hs, ?_, ?_, ?_⟩
  · intro e he
    rcases List.mem_append.1 he with he | he
    · exact h.len e he
    · exact k.len e he
  · intro e he
    rcases List.mem_append.1 he with he | he
    · exact h.one e he
    · exact k.one e he
  · intro i j hi hj
    by_cases hie : i < es.length
    · have hg : (es ++ ys)[i] = es[i] := List.getElem_append_left hie
      have hj' : j < es[i].length := by rw [hg] at hj; exact hj
      obtain ⟨v, hv, hV⟩ := h.get i j hie hj'
      have hl : es[i].length = sz := h.len _ (List.getElem_mem hie)
      have := mul_succ_le (sz := sz) hie
      refine ⟨v, by rw [h1 _ (by omega)]; exact hv, ?_⟩
      simp only [hg]; exact hV
    · have hi' : i - es.length < ys.length := by rw [List.length_append] at hi; omega
      have hg : (es ++ ys)[i] = ys[i - es.length] := List.getElem_append_right (by omega)
      have hj' : j < ys[i - es.length].length := by rw [hg] at hj; exact hj
      obtain ⟨v, hv, hV⟩ := k.get (i - es.length) j hi' hj'
      have hl : ys[i - es.length].length = sz := k.len _ (List.getElem_mem hi')
      have := mul_succ_le (sz := sz) hi'
      refine ⟨v, ?_, ?_⟩
      · rw [show i * sz + j = es.length * sz + ((i - es.length) * sz + j) by rw [← Nat.add_assoc, ← Nat.add_mul]; congr 2; omega, h2 _ (by omega)]
        exact hv
      · simp only [hg]; exact hV

theorem growBy_le (n : Nat) : ∀ (r c : Nat), c ≤ 2 * n + 1024 → Builtin.growBy n r c ≤ 2 * n + 1024
  | 0, c, h => h
  | r + 1, c, h => by
    unfold Builtin.growBy
    split
    · exact h
    · exact growBy_le n r _ (by omega)

theorem nextslicecap_le {n c : Nat} (h : c < n) : Builtin.nextslicecap n c ≤ 2 * n + 1024 := by
  unfold Builtin.nextslicecap
  split
  · omega
  · split
    · omega
    · exact growBy_le n 4 c (by omega)

/-- what a header of a box is -/
def Hdr (w : World) (p : Option (Nat × Nat)) (sz : Nat) (zs : List (List CV)) (v : Value) : Prop :=
  (p = none ∧ v = .slice none 0 0 ∧ zs = []) ∨ ∃ b cap, p = some (b, 0) ∧ v = .slice (some ⟨b, 0, none⟩) zs.length cap ∧ zs.length ≤ cap ∧ OwnB w b (cap * sz)

section
variable {t e e2 u ty : TypeId} {i : TypeInfo} {sz : Nat} {zv : Value}

theorem append_fit (hu : P.underlying t = some (.slice e)) (hu2 : P.underlying u = some (.slice e2)) (hi : P.info? e = some i) (hisz : i.size = sz)
    {base : Option Addr} {m cap n : Nat} {y : Value} {new : Array Value} (hl : (Builtin.lenOf y).run P w = .ok n w) (hf : (Builtin.firstCells sz n y).run P w = .ok new w) (hle : m + n ≤ cap) :
    (Builtin.append_ #[t, u] ty #[.slice base m cap, y]).run P w = match base with
      | none => .ok (.slice none (m + n) cap) w
      | some ad => ((storeCells (ad.add (m * sz)) new.toList).run P w).andThen fun _ w' => .ok (.slice (some ad) (m + n) cap) w' := by
  have hti : ∀ w : World, (typeInfo e).run P w = .ok i w := fun w => by simp [typeInfo, program, Sem.run, Sem.run_bind, hi]
  cases base <;> simp only [Builtin.append_, List.getElem?_toArray, List.getElem?_cons_zero, List.getElem?_cons_succ, Sem.run_bind, run_underlying hu, run_underlying hu2, Result.andThen_ok, sizeOf, hti, hisz, Sem.run_pure, Sem.run_ite, hl, hf,
    Bool.false_eq_true, if_false, Bool.not_false, if_true, if_pos hle]

theorem append_grow (hu : P.underlying t = some (.slice e)) (hu2 : P.underlying u = some (.slice e2)) (hi : P.info? e = some i) (hisz : i.size = sz) (hby : i.bytes ≤ 16384) (hby0 : i.bytes ≠ 0) (hz : i.zero = some zv)
    {base : Option Addr} {m cap n : Nat} {y : Value} {old new : Array Value} (hl : (Builtin.lenOf y).run P w = .ok n w) (hf : (Builtin.firstCells sz n y).run P w.drew = .ok new w.drew) (hfo : (Builtin.firstCells sz m (.slice base m cap)).run P w.drew = .ok old w.drew)
    (hle : ¬ m + n ≤ cap) (hmax : m + n ≤ maxGrow) :
    ∃ newCap, m + n ≤ newCap ∧ (Builtin.append_ #[t, u] ty #[.slice base m cap, y]).run P w =
      .ok (.slice (some ⟨w.heap.size, 0, none⟩) (m + n) newCap) (w.drew.alloc (.cells (old ++ new ++ Builtin.zeroCells zv.cells (newCap - (m + n))) e)) := by
  have hti : ∀ w : World, (typeInfo e).run P w = .ok i w := fun w => by simp [typeInfo, program, Sem.run, Sem.run_bind, hi]
  have hm : maxGrow = 4294967296 := rfl
  have hcap := nextslicecap_le (n := m + n) (c := cap) (by omega)
  have hbig : ¬ Builtin.nextslicecap (m + n) cap * i.bytes > 2 ^ 48 := by
    have : Builtin.nextslicecap (m + n) cap * i.bytes ≤ (2 * (m + n) + 1024) * 16384 := Nat.mul_le_mul hcap hby
    omega
  have hne : ¬ (((m + n : Nat) : Int) > IntKind.i64.max) := by
    simp [IntKind.max, IntKind.signed, IntKind.bits]; omega
  have hask : ∀ (k : Nat) (w : World), (askRoom k).run P w = .ok () w := fun k w => by
    unfold askRoom; split <;> rfl
  refine ⟨Question.cut (.appendCap (m + n) cap e) (w.tape w.drawn (.appendCap (m + n) cap e)), ?_, ?_⟩
  · simp only [Question.cut]; omega
  · have hch : (choose (.appendCap (m + n) cap e)).run P w = .ok (Question.cut (.appendCap (m + n) cap e) (w.tape w.drawn (.appendCap (m + n) cap e))) w.drew := rfl
    have hdrew : w.drew.heap.size = w.heap.size := rfl
    generalize Question.cut (.appendCap (m + n) cap e) (w.tape w.drawn (.appendCap (m + n) cap e)) = nc at hch ⊢
    simp only [Builtin.append_, List.getElem?_toArray, List.getElem?_cons_zero, List.getElem?_cons_succ, Sem.run_bind, run_underlying hu, run_underlying hu2, Result.andThen_ok, sizeOf, hti, hisz, Sem.run_pure, Sem.run_ite, hl, hfo, hf,
      Bool.false_eq_true, if_false, Bool.not_false, if_true, if_neg hle, hne, false_and, if_neg hbig, hch, hask, zeroValue, hz, newRow, run_newObj_alloc, hdrew]
end

theorem run_append {o : Oper} {c : Call} {t e e2 u : TypeId} {x y : Operand} {i : TypeInfo} {sz : Nat} {zv : Value} (ho : o.op = .call c) (hcal : c.callee = .builtin .append) (hargs : c.args = #[x, y]) (hty : c.argTypes = #[t, u])
    (hu : P.underlying t = some (.slice e)) (hu2 : P.underlying u = some (.slice e2)) (hi : P.info? e = some i) (hisz : i.size = sz) (hsz : 0 < sz) (hby : i.bytes ≤ 16384) (hby0 : i.bytes ≠ 0) (hz : i.zero = some zv) (hzs : zv.cells.size = sz)
    (h : Sim O w0 A0 β s (tmf a) w) {d ver : Nat} {es ys : List (List CV)} (hb : s.bx d = ⟨ver, .sl sz es⟩) (hx : Hdr w (β d) sz es (a.eval x)) (hy : V w (Nn O β s.bx) (a.eval y) (.sl ys)) (hr : es.length + ys.length ≤ maxGrow) (hw : ∀ e ∈ ys, e.length = sz) :
    ∃ v w' p', (execOp a.eval o).run P w = .ok (.value v) w' ∧ Hdr w' p' sz (es ++ ys) v ∧ Sim O w0 A0 (fun i => if i = d then p' else β i) (s.box d ⟨ver + 1, .sl sz (es ++ ys)⟩) (tmf a) w' := by
  obtain ⟨⟨n2, c2, b2, hyv, hn2⟩, new, hnew, hflat, hns, hone⟩ := run_first (P := P) hy hsz hw
  have howned : (s.bx d).st.owned = true := by rw [hb]; rfl
  have hBR := h.boxes d
  rw [hb] at hBR
  have hlen2 : (Builtin.lenOf (a.eval y)).run P w = .ok ys.length w := by rw [hyv, hn2]; rfl
  obtain ⟨base, cap, he⟩ : ∃ base cap, a.eval x = .slice base es.length cap := by
    rcases hx with ⟨_, hv, rfl⟩ | ⟨b, cap, _, hv, _, _⟩
    · exact ⟨_, _, hv⟩
    · exact ⟨_, _, hv⟩
  have hexec : ∀ r, (Builtin.append_ #[t, u] o.type #[.slice base es.length cap, a.eval y]).run P w = r → (execOp a.eval o).run P w = r.andThen fun v w' => .ok (.value v) w' := by
    intro r hr
    have hargs' : c.args.map a.eval = #[.slice base es.length cap, a.eval y] := by rw [hargs]; simp [he]
    unfold execOp
    simp only [ho, hcal, resolve, invoke, builtin, Sem.run_bind, Sem.run_pure, Result.andThen_ok, hargs', hty, hr]
  by_cases hfit : es.length + ys.length ≤ cap
  · have hrun := hexec _ (append_fit (ty := o.type) hu hu2 hi hisz (base := base) hlen2 hnew hfit)
    rcases hx with ⟨hp, hv, rfl⟩ | ⟨b, cap', hp, hv, hlc, hown⟩
    · -- nothing to nothing
      obtain ⟨rfl, _, rfl⟩ := Value.slice.inj (he.symm.trans hv)
      have hy0 : ys = [] := by simp at hfit; exact hfit
      subst hy0
      exact ⟨.slice none 0 0, w, none, hrun, .inl ⟨rfl, rfl, rfl⟩, h.change (w' := w) d none ⟨ver + 1, .sl sz []⟩ rfl rfl rfl (Nat.le_refl _) (fun b _ _ => rfl) (.inl (by rw [hb]; exact Nat.lt_succ_self _)) (fun p _ hp => by cases hp) ⟨by simp, .inl ⟨rfl, rfl⟩⟩⟩
    · obtain ⟨rfl, _, rfl⟩ := Value.slice.inj (he.symm.trans hv)
      rw [hp] at hBR
      obtain ⟨arr, el, hheap, hfe⟩ := Flat.of_box hBR
      obtain ⟨arr', el', hheap', hcsz⟩ := hown
      rw [hheap] at hheap'
      cases hheap'
      have hmulc : es.length * sz + ys.length * sz ≤ cap * sz := by rw [← Nat.add_mul]; exact Nat.mul_le_mul_right _ hfit
      have hst := run_storeCells_at (P := P) b (es.length * sz) el new.toList 0 arr w hheap (by simp; omega) hone
      simp only [Nat.add_zero, Array.length_toList] at hst
      simp only [Addr.add_mid, Nat.zero_add, hst, Result.andThen_ok] at hrun
      have hsz' : (arr.toList.take (es.length * sz) ++ new.toList ++ arr.toList.drop (es.length * sz + new.size)).toArray.size = arr.size := by simp; omega
      have hheap2 := setRow_heap w b arr (arr.toList.take (es.length * sz) ++ new.toList ++ arr.toList.drop (es.length * sz + new.size)).toArray el _ hheap
      refine ⟨_, _, some (b, 0), hrun, .inr ⟨b, cap, rfl, by rw [List.length_append], by rw [List.length_append]; exact hfit, _, el, hheap2, by rw [hsz']; exact hcsz⟩, ?_⟩
      refine h.change (w' := w.setRow b _) d (some (b, 0)) ⟨ver + 1, .sl sz (es ++ ys)⟩ rfl rfl rfl (by rw [setRow_size]; exact Nat.le_refl _) (fun k hk hne => setRow_other w b k _ (hne _ howned hp)) (.inl (by rw [hb]; exact Nat.lt_succ_self _))
        (fun p _ hq => .inl ⟨howned, (b, 0), hp, by have := Option.some.inj hq; rw [← this]⟩) ?_
      refine Flat.box ?_ hheap2
      have hext : Ext w (Nn O β s.bx) (w.setRow b (arr.toList.take (es.length * sz) ++ new.toList ++ arr.toList.drop (es.length * sz + new.size)).toArray) (Nn O (fun i => if i = d then some (b, 0) else β i) (fun i => if i = d then ⟨ver + 1, .sl sz (es ++ ys)⟩ else s.bx i)) := by
        refine ⟨by rw [setRow_size]; exact Nat.le_refl _, fun q hq hN => setRow_other w b q _ (fun e => hN (.inr ⟨d, 0, howned, by rw [hp, e]⟩)), fun q hq hN => ?_⟩
        rcases hN with hN | ⟨r, base', hr, hr'⟩
        · exact .inl hN
        · by_cases e : r = d
          · subst e; simp only [if_true] at hr'; exact .inr ⟨r, base', howned, by rw [hp]; exact hr'⟩
          · simp only [if_neg e] at hr hr'; exact .inr ⟨r, base', hr, hr'⟩
      refine (hfe.ext hext).append (hflat.ext hext) hns (by rw [hsz']; omega) ?_ ?_
      · intro m hm
        simp only [List.getElem?_toArray]
        rw [List.append_assoc, List.getElem?_append_left (by simp; omega), List.getElem?_take, if_pos hm, Array.getElem?_toList]
      · intro m hm
        simp only [List.getElem?_toArray]
        rw [List.append_assoc, List.getElem?_append_right (by simp; omega), List.getElem?_append_left (by simp; omega)]
        simp only [List.length_take, Array.length_toList, Array.getElem?_toList]
        congr 1
        omega
  · -- a new row
    have hx' := hx
    have hold : ∃ old, (Builtin.firstCells sz es.length (.slice base es.length cap)).run P w.drew = .ok old w.drew ∧ Flat w (Nn O β s.bx) old sz es ∧ old.size = es.length * sz := by
      rcases hx with ⟨hp, hv, rfl⟩ | ⟨b, cap', hp, hv, hlc, hown⟩
      · obtain ⟨rfl, _, rfl⟩ := Value.slice.inj (he.symm.trans hv)
        exact ⟨#[], rfl, ⟨by simp, by simp, by simp, fun i j hi => by simp at hi⟩, by simp⟩
      · obtain ⟨rfl, _, rfl⟩ := Value.slice.inj (he.symm.trans hv)
        rw [hp] at hBR
        obtain ⟨arr, el, hheap, hfe⟩ := Flat.of_box hBR
        have hcell : ∀ j, j < es.length * sz → w.drew.cell? ((⟨b, 0, none⟩ : Addr).add j) = some (arr.getD j undef) := by
          intro j hj
          have hj' : j < arr.size := by have := hfe.size; omega
          have hheap' : w.drew.heap[b]? = some (.cells arr el (0, 0)) := hheap
          rw [Addr.add_mid]
          simp only [World.cell?, hheap', Nat.zero_add, Option.isSome_none, Bool.false_eq_true, if_false]
          simp [hj']
        refine ⟨_, run_loadCells (P := P) w.drew ⟨b, 0, none⟩ (es.length * sz) (fun j => arr.getD j undef) hcell, ?_, by simp⟩
        refine ⟨by simp, hfe.len, hfe.one, fun p q hp' hq => ?_⟩
        obtain ⟨v, hv, hV⟩ := hfe.get p q hp' hq
        have hl : es[p].length = sz := hfe.len _ (List.getElem_mem hp')
        have := mul_succ_le (sz := sz) hp'
        refine ⟨v, ?_, hV⟩
        simp only [List.getElem?_toArray, List.getElem?_map, List.getElem?_range (show p * sz + q < es.length * sz by omega), Option.map_some, Array.getD_eq_getD_getElem?, hv, Option.getD_some]
    obtain ⟨old, hold, hfo, hos⟩ := hold
    have hd : Sim O w0 A0 β s (tmf a) w.drew := h.grow rfl rfl rfl (Nat.le_refl _) fun _ _ => rfl
    have hydrew : V w.drew (Nn O β s.bx) (a.eval y) (.sl ys) := V.ext (w := w) (w' := w.drew) ⟨Nat.le_refl _, fun _ _ _ => rfl, fun _ _ h => h⟩ hy
    obtain ⟨_, new', hnew', hflat', hns', _⟩ := run_first (P := P) hydrew hsz hw
    obtain ⟨nc, hnc, hrun⟩ := append_grow (ty := o.type) hu hu2 hi hisz hby hby0 hz (base := base) (cap := cap) hlen2 hnew' hold hfit hr
    have hrun := hexec _ hrun
    have hoseq : ∀ cells : Array Value, (w.drew.alloc (.cells cells e)).heap[w.heap.size]? = some (.cells cells e (0, 0)) := fun cells => by
      show (w.heap.push _)[w.heap.size]? = _; simp
    have hk : ∀ (cells : Array Value) b, b < w.heap.size → (w.drew.alloc (.cells cells e)).heap[b]? = w.heap[b]? := fun cells b hb => by
      show (w.heap.push _)[b]? = _; rw [Array.getElem?_push, if_neg (by omega)]
    have hsize : ∀ cells : Array Value, (w.drew.alloc (.cells cells e)).heap.size = w.heap.size + 1 := fun cells => Array.size_push _
    have htot : es.length * sz + ys.length * sz + (nc - (es.length + ys.length)) * sz = nc * sz := by rw [← Nat.add_mul, ← Nat.add_mul]; congr 1; omega
    have hcells : (old ++ new' ++ Builtin.zeroCells zv.cells (nc - (es.length + ys.length))).size = nc * sz := by
      simp only [Array.size_append, hos, hns', Builtin.zeroCells, Array.size_map, Array.size_range, hzs]; exact htot
    refine ⟨_, _, some (w.heap.size, 0), hrun, .inr ⟨w.heap.size, nc, rfl, by rw [List.length_append], by rw [List.length_append]; exact hnc, _, e, hoseq _, ?_⟩, ?_⟩
    · rw [hcells]; exact Nat.le_refl _
    · refine h.change (w' := w.drew.alloc _) d (some (w.heap.size, 0)) ⟨ver + 1, .sl sz (es ++ ys)⟩ rfl rfl rfl (by rw [hsize]; omega) (fun k hk' _ => hk _ k hk') (.inl (by rw [hb]; exact Nat.lt_succ_self _))
        (fun p _ hq => .inr (by have := Option.some.inj hq; rw [← this]; exact ⟨Nat.le_refl _, by rw [hsize]; exact Nat.lt_succ_self _⟩)) ?_
      refine Flat.box ?_ (hoseq _)
      have hext : Ext w (Nn O β s.bx) (w.drew.alloc (.cells (old ++ new' ++ Builtin.zeroCells zv.cells (nc - (es.length + ys.length))) e)) (Nn O (fun i => if i = d then some (w.heap.size, 0) else β i) (fun i => if i = d then ⟨ver + 1, .sl sz (es ++ ys)⟩ else s.bx i)) := by
        refine ⟨by rw [hsize]; omega, fun q hq _ => hk _ q hq, fun q hq hN => ?_⟩
        rcases hN with hN | ⟨r, base', hr, hr'⟩
        · exact .inl hN
        · by_cases e : r = d
          · subst e; simp only [if_true, Option.some.injEq, Prod.mk.injEq] at hr'; omega
          · simp only [if_neg e] at hr hr'; exact .inr ⟨r, base', hr, hr'⟩
      have hfl' : Flat w (Nn O β s.bx) new' sz ys := ⟨hflat'.size, hflat'.len, hflat'.one, fun i j hi hj => by
        obtain ⟨v, hv, hV⟩ := hflat'.get i j hi hj
        exact ⟨v, hv, V.ext (w := w.drew) (w' := w) ⟨Nat.le_refl _, fun _ _ _ => rfl, fun _ _ h => h⟩ hV⟩⟩
      refine (hfo.ext hext).append (hfl'.ext hext) hns' (by rw [hcells]; omega) ?_ ?_
      · intro m hm
        rw [Array.append_assoc, Array.getElem?_append_left (by omega)]
      · intro m hm
        rw [Array.append_assoc, Array.getElem?_append_right (by omega), Array.getElem?_append_left (by omega), hos]
        congr 1
        omega
end
end Go.Pl

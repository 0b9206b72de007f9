/- Part of the proof of CellSpoilt: lemmas. -/
import Derived.Test.YtcmejdkjfekoeaaCSpoilS1
import Derived.Test.YtcmejdkjfekoeaaCSpoilS4
import Derived.ChangeArms
import Derived.ChangeOld
import Derived.OpenShut
import Derived.WideShapes
import Derived.Below
set_option linter.unusedVariables false
set_option linter.unusedSimpArgs false
/-
  WHAT A ROW HANDS IN READS AS CLOSED VALUES; what a contract says behind the call. My own work.
-/
namespace Go.Pl
open Go Go.WideShapes Go.RowKit
set_option linter.unusedVariables false
set_option linter.unusedSimpArgs false
inductive LF where
  | int (k : IntKind)
  | bool
  | str
  | sl (l : List LF)
  deriving Inhabited
def catO {α : Type} : List (Option (List α)) → Option (List α)
  | [] => some []
  | x :: l => match x, catO l with
    | some a, some b => some (a ++ b)
    | _, _ => none
def offsOk (P : Program) : Nat → List Field → Bool
  | _, [] => true
  | o, f :: l => decide (f.offset = o) && offsOk P (o + P.cellsOf f.type) l
def flatT (P : Program) : Nat → TypeId → Option (List LF)
  | 0, _ => none
  | n + 1, t => Option.bind (α := List LF) (match P.underlying t with
    | some .bool => some [.bool]
    | some (.int k) => some [.int k]
    | some .string => some [.str]
    | some (.slice e) => (flatT P n e).bind fun l => if l.length = 0 then none else some [.sl l]
    | some (.struct fs) => if offsOk P 0 fs.toList then catO (fs.toList.map fun f => flatT P n f.type) else none
    | some (.array len e) => catO (List.replicate len (flatT P n e))
    | _ => none) fun l => if P.cellsOf t = l.length then some l else none
inductive LF.Ok : LF → CV → Prop
  | int (k : IntKind) (n : Int) (h : (Lit.int k n).wf = true) : Ok (.int k) (.int k n)
  | bool (b : Bool) : Ok .bool (.bool b)
  | str (s : ByteArray) (h : s.size ≤ maxLen) : Ok .str (.str s)
  | sl (l : List LF) (es : List (List CV)) (hn : es.length ≤ maxLen) (hl : ∀ e ∈ es, e.length = l.length)
      (h : ∀ e ∈ es, ∀ (i : Nat) (h1 : i < l.length) (h2 : i < e.length), Ok l[i] e[i]) : Ok (.sl l) (.sl es)
structure OkL (l : List LF) (cs : List CV) : Prop where
  len : cs.length = l.length
  each : ∀ (i : Nat) (h1 : i < l.length) (h2 : i < cs.length), LF.Ok l[i] cs[i]
theorem LF.Ok.one {l : LF} {c : CV} (h : LF.Ok l c) : c.one = true := by cases h <;> rfl
structure RowV (w : World) (sh : List LF) (vs : List Value) (cs : List CV) : Prop where
  ok : OkL sh cs
  len : vs.length = cs.length
  each : ∀ (i : Nat) (h1 : i < vs.length) (h2 : i < cs.length), V w (fun _ => False) vs[i] cs[i]
theorem RowV.nil (w : World) : RowV w [] [] [] := ⟨⟨rfl, fun i h => by simp at h⟩, rfl, fun i h => by simp at h⟩
theorem RowV.single {w : World} {l : LF} {v : Value} {c : CV} (h : LF.Ok l c) (hv : V w (fun _ => False) v c) : RowV w [l] [v] [c] :=
  ⟨⟨rfl, fun i h1 h2 => by
    obtain rfl : i = 0 := by simp at h1; omega
    exact h⟩, rfl, fun i h1 h2 => by
    obtain rfl : i = 0 := by simp at h1; omega
    exact hv⟩
theorem RowV.append {w : World} {a b : List LF} {vs us : List Value} {cs ds : List CV} (h : RowV w a vs cs) (k : RowV w b us ds) : RowV w (a ++ b) (vs ++ us) (cs ++ ds) := by
  have h1 := h.ok.len
  have h2 := h.len
  refine ⟨⟨by simp [h.ok.len, k.ok.len], fun i hi hj => ?_⟩, by simp [h.len, k.len], fun i hi hj => ?_⟩
  · by_cases e : i < a.length
    · rw [List.getElem_append_left e, List.getElem_append_left (by omega)]; exact h.ok.each i e (by omega)
    · rw [List.getElem_append_right (by omega), List.getElem_append_right (by omega)]
      simp only [h1]
      exact k.ok.each _ (by simp at hi; omega) (by simp at hj; omega)
  · by_cases e : i < cs.length
    · rw [List.getElem_append_left (by omega), List.getElem_append_left e]; exact h.each i (by omega) e
    · rw [List.getElem_append_right (by omega), List.getElem_append_right (by omega)]
      simp only [h2]
      exact k.each _ (by simp at hi; omega) (by simp at hj; omega)
section
variable {H : Type} {enc : TypeId × Value → H} {P : Program} {w : World} {base : Nat} {spare : Nat → Bool} {held : Bool}
theorem flatT_len {n : Nat} {t : TypeId} {sh : List LF} (h : flatT P n t = some sh) : P.cellsOf t = sh.length := by
  cases n with
  | zero => simp [flatT] at h
  | succ n =>
    unfold flatT at h
    obtain ⟨l, _, h⟩ := Option.bind_eq_some_iff.1 h
    split at h
    · obtain rfl := Option.some.inj h; assumption
    · cases h
theorem rowV_pieces {n : Nat} : ∀ (ts : List TypeId) (o : Nat) (cs : List Value) (sh : List LF), catO (ts.map fun t => flatT P n t) = some sh → cs.length = o + sh.length →
    (∀ (i : Nat) (t : TypeId), ts[i]? = some t → ∀ l, flatT P n t = some l → ∃ ds, RowV w l ((cs.drop (o + ((ts.take i).map P.cellsOf).sum)).take (P.cellsOf t)) ds) →
    ∃ ds, RowV w sh (cs.drop o) ds
  | [], o, cs, sh, hs, hl, _ => by
    obtain rfl := Option.some.inj hs
    have : cs.drop o = [] := List.drop_eq_nil_iff.2 (by simpa using Nat.le_of_eq hl)
    rw [this]
    exact ⟨_, .nil w⟩
  | t :: ts, o, cs, sh, hs, hl, h => by
    simp only [List.map_cons, catO] at hs
    split at hs
    · rename_i a b ha hb
      obtain rfl := Option.some.inj hs
      obtain ⟨ds, hd⟩ := h 0 t rfl a ha
      simp only [List.take_zero, List.map_nil, List.sum_nil, Nat.add_zero] at hd
      obtain ⟨es, he⟩ := rowV_pieces ts (o + P.cellsOf t) cs b hb (by rw [flatT_len ha]; simp at hl; omega) (fun i u hu l hlu => by
        have := h (i + 1) u (by simpa using hu) l hlu
        simpa [Nat.add_assoc] using this)
      have := hd.append he
      refine ⟨ds ++ es, ?_⟩
      have e : (cs.drop o).take (P.cellsOf t) ++ cs.drop (o + P.cellsOf t) = cs.drop o := by
        rw [← List.drop_drop, List.take_append_drop]
      rw [e] at this
      exact this
    · cases hs
theorem offs_sum : ∀ (fs : List Field) (o : Nat), offsOk P o fs = true → ∀ (i : Nat) (f : Field), fs[i]? = some f → f.offset = o + (((fs.map (·.type)).take i).map P.cellsOf).sum
  | [], o, _, i, f, hf => by simp at hf
  | g :: fs, o, h, 0, f, hf => by
    simp only [offsOk, Bool.and_eq_true, decide_eq_true_eq] at h
    obtain rfl : g = f := by simpa using hf
    simpa using h.1
  | g :: fs, o, h, i + 1, f, hf => by
    simp only [offsOk, Bool.and_eq_true, decide_eq_true_eq] at h
    have := offs_sum fs _ h.2 i f (by simpa using hf)
    simp only [List.map_cons, List.take_succ_cons, List.sum_cons]
    omega
theorem sum_rep (n k : Nat) : ((List.replicate n k)).sum = n * k := by
  induction n with
  | zero => simp
  | succ n ih => simp [List.replicate_succ, ih, Nat.add_mul]; omega
theorem trod_V : ∀ (n fuel : Nat) (t : TypeId) (cs : List Value) (x : DataW H × List MemPlace) (sh : List LF), flatT P n t = some sh → DataW.trod enc P w base spare held fuel t cs = some x → ∃ ds, RowV w sh cs ds := by
  intro n
  induction n with
  | zero => intro fuel t cs x sh h; simp [flatT] at h
  | succ n ih =>
    intro fuel t cs x sh hf h
    have hlen := flatT_len hf
    unfold flatT at hf
    obtain ⟨l, hl, hf⟩ := Option.bind_eq_some_iff.1 hf
    obtain rfl : l = sh := by
      split at hf
      · exact Option.some.inj hf
      · cases hf
    split at hl
    · rename_i hu
      obtain rfl := Option.some.inj hl
      obtain ⟨b, rfl, _⟩ := DataW.trod_bool hu h
      exact ⟨_, .single (.bool b) (.bool b)⟩
    · rename_i k hu
      obtain rfl := Option.some.inj hl
      obtain ⟨z, rfl, _, hw⟩ := DataW.trod_int hu h
      exact ⟨_, .single (.int k z hw) (.int k z)⟩
    · rename_i hu
      obtain rfl := Option.some.inj hl
      obtain ⟨s, rfl, _, hw⟩ := DataW.trod_string hu h
      exact ⟨_, .single (.str s hw) (.str s)⟩
    · rename_i e hu
      obtain ⟨le, hle, hl⟩ := Option.bind_eq_some_iff.1 hl
      split at hl
      · cases hl
      rename_i hne
      obtain rfl := Option.some.inj hl
      rcases DataW.trod_slice hu h with ⟨rfl, _⟩ | ⟨a, len, cap, elems, rest, m, _, rfl, _, _, hlc, hcm, hel, hget, _, _⟩
      · exact ⟨_, .single (.sl le [] (by simp [maxLen]) (by simp) (by simp)) .nil⟩
      · have hce := flatT_len hle
        have each : ∀ i, i < len → ∃ cs', w.cells? base (a.add (i * P.cellsOf e)) (P.cellsOf e) = some cs' ∧ ∃ ds, RowV w le cs' ds := by
          intro i hi
          have h1 := hget i hi
          rw [List.getElem?_eq_getElem (by omega)] at h1
          obtain ⟨cs', h2, h3⟩ := Option.bind_eq_some_iff.1 h1
          exact ⟨cs', h2, ih _ _ _ _ _ hle h3⟩
        by_cases h0 : len = 0
        · subst h0
          exact ⟨_, .single (.sl le [] (by simp [maxLen]) (by simp) (by simp)) (.emp a cap)⟩
        have hz0 : P.cellsOf e ≠ 0 := by omega
        · have hex : ∀ i : _root_.Fin len, ∃ p : List Value × List CV, w.cells? base (a.add (i.1 * P.cellsOf e)) (P.cellsOf e) = some p.1 ∧ RowV w le p.1 p.2 := fun i => by
            obtain ⟨cs', h1, ds, h2⟩ := each i.1 i.2
            exact ⟨(cs', ds), h1, h2⟩
          obtain ⟨g, hg⟩ : ∃ g : Nat → List Value × List CV, ∀ i, i < len → w.cells? base (a.add (i * P.cellsOf e)) (P.cellsOf e) = some (g i).1 ∧ RowV w le (g i).1 (g i).2 :=
            ⟨fun i => if hi : i < len then Classical.choose (hex ⟨i, hi⟩) else ([], []), fun i hi => by simp only [dif_pos hi]; exact Classical.choose_spec (hex ⟨i, hi⟩)⟩
          have hcell : ∀ i j, i < len → j < P.cellsOf e → w.cell? ((a.add (i * P.cellsOf e)).add j) = some ((g i).1.getD j undef) := by
            intro i j hi hj
            obtain ⟨_, q1, q2⟩ := World.cells?_some (hg i hi).1
            rw [q2 j hj, List.getElem?_eq_getElem (by omega)]
            simp [List.getD, show j < (g i).1.length by omega]
          obtain ⟨b, off, sp⟩ := a
          have hsp : sp = none := by
            have := hcell 0 0 (by omega) (by omega)
            have := World.cell?_spot this
            simpa [Addr.add] using this
          subst hsp
          have hb : b < w.heap.size := by
            have := World.block_lt_of_cell? w _ (hcell 0 0 (by omega) (by omega))
            simpa [Addr.add] using this
          have hdl : ∀ i, i < len → (g i).2.length = P.cellsOf e := fun i hi => by rw [(hg i hi).2.ok.len, hce]
          have hvl : ∀ i, i < len → (g i).1.length = P.cellsOf e := fun i hi => by rw [(hg i hi).2.len, hdl i hi]
          refine ⟨[.sl ((List.range len).map fun i => (g i).2)], .single (.sl le _ (by simp; omega) ?_ ?_) ?_⟩
          · intro q hq
            obtain ⟨i, hi, rfl⟩ := List.mem_map.1 hq
            exact (hg i (List.mem_range.1 hi)).2.ok.len
          · intro q hq
            obtain ⟨i, hi, rfl⟩ := List.mem_map.1 hq
            exact (hg i (List.mem_range.1 hi)).2.ok.each
          · have hlen' : ((List.range len).map fun i => (g i).2).length = len := by simp
            have := V.sl (w := w) (N := fun _ => False) b off cap (P.cellsOf e) ((List.range len).map fun i => (g i).2) (fun i j => (g i).1.getD j undef) hb (fun h => h)
              (fun q hq => by
                obtain ⟨i, hi, rfl⟩ := List.mem_map.1 hq
                exact hdl i (List.mem_range.1 hi))
              (by omega)
              (fun q hq c hc => by
                obtain ⟨i, hi, rfl⟩ := List.mem_map.1 hq
                obtain ⟨j, hj, rfl⟩ := List.getElem_of_mem hc
                have hi' := List.mem_range.1 hi
                have := hdl i hi'
                exact ((hg i hi').2.ok.each j (by omega) hj).one)
              (fun i j hi hj => by
                have hi' : i < len := by simpa using hi
                have hj' : j < P.cellsOf e := by
                  have := hdl i hi'
                  simp at hj; omega
                have := hcell i j hi' hj'
                rw [Addr.add_mid, Addr.add_mid] at this
                rw [← this, Nat.add_assoc])
              (fun i j hi hj => by
                have hi' : i < len := by simpa using hi
                have hj' : j < (g i).2.length := by simpa using hj
                have h1 := hdl i hi'
                have h2 := hvl i hi'
                have := (hg i hi').2.each j (by omega) hj'
                simpa [List.getD, show j < (g i).1.length by omega] using this)
            rw [hlen'] at this
            exact this
    · rename_i fs hu
      split at hl
      · rename_i hoff
        obtain ⟨xs, m, _, _, hcl, hxl, hget⟩ := DataW.trod_struct hu h
        have := rowV_pieces (P := P) (w := w) (n := n) (fs.toList.map (·.type)) 0 cs l (by rw [List.map_map]; exact hl) (by omega) (fun i t ht lt hlt => by
          obtain ⟨f, hf, rfl⟩ : ∃ f, fs.toList[i]? = some f ∧ f.type = t := by
            rw [List.getElem?_map] at ht
            obtain ⟨f, hf, e⟩ := Option.map_eq_some_iff.1 ht
            exact ⟨f, hf, e⟩
          have ho := offs_sum fs.toList 0 hoff i f hf
          have h1 := hget i f (by simpa using hf)
          have hix : i < xs.length := by
            have := (List.getElem?_eq_some_iff.1 hf).1
            simp at this; omega
          rw [List.getElem?_eq_getElem hix] at h1
          rw [← ho]
          exact ih _ _ _ _ _ hlt h1)
        simpa using this
      · cases hl
    · rename_i k e hu
      obtain ⟨xs, m, _, _, hcl, hxl, hget⟩ := DataW.trod_array hu h
      have := rowV_pieces (P := P) (w := w) (n := n) (List.replicate k e) 0 cs l (by rw [List.map_replicate]; exact hl) (by omega) (fun i t ht lt hlt => by
        have hik : i < k := by
          have := (List.getElem?_eq_some_iff.1 ht).1
          simpa using this
        obtain rfl : e = t := by
          rw [List.getElem?_replicate, if_pos hik] at ht
          exact Option.some.inj ht
        have h1 := hget i hik
        rw [List.getElem?_eq_getElem (by omega)] at h1
        have e1 : (0 + (((List.replicate k e).take i).map P.cellsOf).sum) = i * P.cellsOf e := by
          rw [List.take_replicate, List.map_replicate, sum_rep, Nat.min_eq_left (by omega)]; omega
        rw [e1]
        exact ih _ _ _ _ _ hlt h1)
      simpa using this
    · cases hl
theorem row_leaf {b0 : Nat} {r : Reach} {t : TypeId} {v : Value} {d : DataW H} {p : List MemPlace} (n : Nat) {l : LF} (hf : flatT P n t = some [l]) (hl : (match P.underlying t with | some (.struct _) | some (.array _ _) => false | _ => true) = true)
    (hok : Value.okWide P w r b0 t v) (h : DataW.Trod enc P w base spare held t v d p) : ∃ c, LF.Ok l c ∧ V w (fun _ => False) v c := by
  obtain ⟨fuel, h⟩ := h
  have hv : v.cells = #[v] := by
    cases v with
    | agg xs => 
      simp only [Value.okWide] at hok
      split at hl
      · cases hl
      · cases hl
      · split at hok
        · simp_all
        · simp_all
        · simp only [Cell.okWide] at hok
          split at hok <;> first | (rename_i hq; cases hq; done) | simp_all [Cell.ok]
    | tuple xs => rfl
    | _ => rfl
  rw [hv] at h
  obtain ⟨ds, hd⟩ := trod_V n fuel t _ _ _ hf h
  have h1 := hd.ok.len
  match ds, h1, hd with
  | [c], _, hd => exact ⟨c, hd.ok.each 0 (by simp) (by simp), hd.each 0 (by simp) (by simp)⟩
theorem row_agg {b0 : Nat} {r : Reach} {t : TypeId} {v : Value} {d : DataW H} {p : List MemPlace} (n : Nat) {sh : List LF} (hf : flatT P n t = some sh) (hl : (match P.underlying t with | some (.struct _) | some (.array _ _) => true | _ => false) = true)
    (hok : Value.okWide P w r b0 t v) (h : DataW.Trod enc P w base spare held t v d p) : ∃ cs, OkL sh cs ∧ V w (fun _ => False) v (.agg cs) := by
  obtain ⟨fuel, h⟩ := h
  obtain ⟨xs, rfl⟩ : ∃ xs, v = .agg xs := by
    simp only [Value.okWide] at hok
    split at hl
    · rename_i hu; rw [hu] at hok; obtain ⟨xs, h, _⟩ := hok; exact ⟨xs, h⟩
    · rename_i hu; rw [hu] at hok; obtain ⟨xs, h, _⟩ := hok; exact ⟨xs, h⟩
    · cases hl
  obtain ⟨ds, hd⟩ := trod_V n fuel t _ _ _ hf h
  refine ⟨ds, hd.ok, .agg xs ds (by have := hd.len; simpa [Value.cells] using this) (fun c hc => ?_) (fun i h1 h2 => ?_)⟩
  · obtain ⟨j, hj, rfl⟩ := List.getElem_of_mem hc
    exact (hd.ok.each j (by have := hd.ok.len; omega) hj).one
  · have := hd.each i (by simpa [Value.cells] using h1) h2
    simpa [Value.cells] using this
theorem pcall_row {f : FuncId} {cs : List CV} {vs : Array Value} {r : CV} (hC : PCallG P f (cs.map .c) (.c r) []) (hn : vs.size = cs.length) (hV : ∀ (i : Nat) (h1 : i < vs.size) (h2 : i < cs.length), V w (fun _ => False) vs[i] cs[i]) :
    Calls P f vs w fun e w' => ∃ v, e = .returned v ∧ V w' (fun _ => False) v r ∧ Below w.heap.size w w' := by
  have hno : ∀ i, ((initPS (cs.map AV.c)).bx i).st.owned = false := by
    intro i
    simp only [initPS, List.getElem?_map]
    cases hc : cs[i]? <;> rfl
  have hS : Sim (fun _ => False) w ⟨fun _ => False, fun _ => none⟩ (fun _ => none) (initPS (cs.map .c)) (fun i => vs.getD i undef) w := by
    refine ⟨rfl, rfl, rfl, Nat.le_refl _, fun _ _ _ => rfl, fun i => ?_, fun d => ?_, fun d d' p p' _ ho => (by rw [hno d] at ho; cases ho), fun d p ho => (by rw [hno d] at ho; cases ho), fun b hb => hb.elim, fun d ps hd => absurd (hno d) (by rw [hd]; simp [BSt.owned]), fun d _ ho => rfl⟩
    · by_cases hi : i < cs.length
      · have : (initPS (cs.map AV.c)).t i = .c cs[i] := by simp [initPS, hi]
        rw [this]
        have hv : vs.getD i undef = vs[i]'(by omega) := by simp [show i < vs.size by omega]
        rw [hv]
        exact (hV i (by omega) hi).ext (.of_less fun b hb => by
          rcases hb with hb | ⟨_, _, ho, _⟩
          · exact hb
          · rw [hno] at ho; cases ho)
      · have : (initPS (cs.map AV.c)).t i = .undef := by simp [initPS, hi]
        rw [this]
        show vs.getD i undef = undef
        simp [show ¬ i < vs.size by omega]
    · have : ((initPS (cs.map AV.c)).bx d).st = .dead := by
        simp only [initPS, List.getElem?_map]
        cases hc : cs[d]? <;> rfl
      rw [this]
      trivial
  refine (hC w (fun _ => False) (fun _ => False) (fun _ => none) vs (by simpa using hn) hS).mono ?_
  rintro e w' ⟨v, β', rfl, hS', _⟩
  refine ⟨v, rfl, ?_, hS'.os, hS'.tape, hS'.output, hS'.size, fun k hk => hS'.keep k hk (fun h => h)⟩
  have ht := hS'.temps (cs.map AV.c).length
  simp only [retPS, if_true] at ht
  exact V.ext (.of_less fun b hb => hb.elim) ht
end
end Go.Pl
/-
  THE WALK OF A PLAIN CODE, more steps. My own work.
-/
namespace Go.Pl
set_option linter.unusedSimpArgs false
section
variable {C : CallP} {l : List POp} {s : PS} {K : PS → Prop} {d : Nat} {x y z : PO} {k : IntKind} {a b n m : Int}
end
end Go.Pl

/-
  '==' OF VALUES THAT LIE FLAT: whole numbers, bools, strings, structs and arrays of them. My own work.
-/
import Derived.Test.YtcmejdkjfekoeaaPlOps2
import Derived.ChangeKeysEq
import Derived.WideLaws
namespace Go.Pl
open Go
set_option linter.unusedVariables false

/-- the fields lie one behind the other from 'o' on: what their cells are -/
def fieldsShape (P : Program) (sh : TypeId → Option (List LK)) : Nat → List Field → Option (List LK)
  | _, [] => some []
  | o, f :: fs => match sh f.type with
    | some l => if f.name ≠ "_" ∧ f.offset = o ∧ l.length = P.cellsOf f.type then (fieldsShape P sh (o + l.length) fs).map (l ++ ·) else none
    | none => none

def repShape (l : List LK) : Nat → List LK
  | 0 => []
  | n + 1 => l ++ repShape l n

def shapeOf (P : Program) : Nat → TypeId → Option (List LK)
  | 0, _ => none
  | d + 1, t => match P.underlying t with
    | some .bool => some [.b]
    | some (.int _) => some [.i]
    | some .string => some [.s]
    | some (.struct fs) => if P.stoodInHeld t then none else fieldsShape P (shapeOf P d) 0 fs.toList
    | some (.array n e) => match shapeOf P d e with
      | some l => if l.length = P.cellsOf e then some (repShape l n) else none
      | none => none
    | _ => none

theorem shEq_append : ∀ {l m : List LK} {a b c d : List CV} {r : Bool}, a.length = l.length → c.length = l.length → shEq (l ++ m) (a ++ b) (c ++ d) = some r →
    ∃ x y, shEq l a c = some x ∧ shEq m b d = some y ∧ r = (x && y)
  | [], m, [], b, [], d, r, _, _, h => ⟨true, r, rfl, h, rfl⟩
  | [], m, _ :: _, b, _, d, r, hl, _, _ => by simp at hl
  | [], m, [], b, _ :: _, d, r, _, hl, _ => by simp at hl
  | _ :: _, m, [], b, _, d, r, hl, _, _ => by simp at hl
  | _ :: _, m, _ :: _, b, [], d, r, _, hl, _ => by simp at hl
  | k :: l, m, p :: a, b, q :: c, d, r, hl, hl', h => by
    have step : ∀ {z : Bool}, (shEq (l ++ m) (a ++ b) (c ++ d)).map (z && ·) = some r → ∃ x y, (shEq l a c).map (z && ·) = some x ∧ shEq m b d = some y ∧ r = (x && y) := by
      intro z h
      cases hs : shEq (l ++ m) (a ++ b) (c ++ d) with
      | none => rw [hs] at h; cases h
      | some u =>
        rw [hs] at h
        obtain ⟨x, y, hx, hy, rfl⟩ := shEq_append (by simpa using hl) (by simpa using hl') hs
        exact ⟨z && x, y, by rw [hx]; rfl, hy, by rw [← Option.some.inj h, Bool.and_assoc]⟩
    cases k <;> cases p <;> simp only [List.cons_append, shEq] at h ⊢ <;> (try (cases h; done)) <;> cases q <;> simp only [shEq] at h ⊢ <;> (try (cases h; done))
    · split at h
      · rename_i hk; simp only [if_pos hk]; exact step h
      · cases h
    · exact step h
    · exact step h

/-- cells that read as closed cells -/
structure Reads (w : World) (N : Nat → Prop) (xs : Array Value) (cs : List CV) : Prop where
  len : xs.size = cs.length
  get : ∀ (i : Nat) (h1 : i < xs.size) (h2 : i < cs.length), V w N xs[i] cs[i]

theorem Reads.extract {w : World} {N : Nat → Prop} {xs : Array Value} {cs : List CV} (h : Reads w N xs cs) (o n : Nat) (hn : o + n ≤ cs.length) :
    Reads w N (xs.extract o (o + n)) ((cs.drop o).take n) := by
  have hl := h.len
  refine ⟨by simp; omega, fun i h1 h2 => ?_⟩
  have := h.get (o + i) (by simp at h1 h2; omega) (by simp at h2; omega)
  simpa using this

section
variable {P : Program} {w : World} {N : Nat → Prop}

theorem part_leaf {t : TypeId} {d : TypeDesc} (hu : P.underlying t = some d) (hd : d.isRow = false) {xs : Array Value} {o : Nat} (ho : o < xs.size) :
    (part t xs o).run P w = .ok xs[o] w := by
  have hagg : (isAgg t).run P w = .ok false w := by
    unfold isAgg
    rw [Sem.run_bind, run_underlying hu w]
    cases d <;> simp_all [TypeDesc.isRow]
  simp [part, Sem.run_bind, hagg, ho]

theorem part_row {t : TypeId} {d : TypeDesc} (hu : P.underlying t = some d) (hd : d.isRow = true) {i : TypeInfo} (hi : P.info? t = some i) {xs : Array Value} {o : Nat} :
    (part t xs o).run P w = .ok (.agg (xs.extract o (o + P.cellsOf t))) w := by
  have hagg : (isAgg t).run P w = .ok true w := by
    unfold isAgg
    rw [Sem.run_bind, run_underlying hu w]
    cases d <;> simp_all [TypeDesc.isRow]
  simp [part, Sem.run_bind, hagg, sizeOf, typeInfo, hi, Program.cellsOf]

theorem leaf_one {cs : List CV} {o : Nat} (ho : o + 1 ≤ cs.length) : (cs.drop o).take 1 = [cs[o]] := by
  rw [List.take_one, List.head?_drop, List.getElem?_eq_getElem (by omega)]; rfl

theorem cellsOf_info {t : TypeId} (h : P.cellsOf t ≠ 0) : ∃ i, P.info? t = some i := by
  unfold Program.cellsOf at h
  cases hi : P.info? t with
  | none => simp [hi] at h
  | some i => exact ⟨i, rfl⟩

/-- '==' at type 't' of the cells from 'o' on -/
def EqAt (P : Program) (w : World) (N : Nat → Prop) (d : Nat) (t : TypeId) (sh : List LK) : Prop :=
  ∀ (D : Nat), d ≤ D → ∀ (xs ys : Array Value) (cs ds : List CV) (o : Nat) (r : Bool), Reads w N xs cs → Reads w N ys ds → o + sh.length ≤ cs.length → o + sh.length ≤ ds.length →
    shEq sh ((cs.drop o).take sh.length) ((ds.drop o).take sh.length) = some r →
    ∃ u v, (part t xs o).run P w = .ok u w ∧ (part t ys o).run P w = .ok v w ∧ (Op.equalIn D t u v).run P w = .ok r w

theorem drop_take_split (cs : List CV) (o n m : Nat) : (cs.drop o).take (n + m) = (cs.drop o).take n ++ (cs.drop (o + n)).take m := by
  rw [List.take_add, List.drop_drop]

theorem eqFields_run {d D : Nat} (hD : d ≤ D) {xs ys : Array Value} {cs ds : List CV} (hx : Reads w N xs cs) (hy : Reads w N ys ds)
    (ih : ∀ t sh, shapeOf P d t = some sh → sh.length = P.cellsOf t → EqAt P w N d t sh) : ∀ (fs : List Field) (o : Nat) (sh : List LK), fieldsShape P (shapeOf P d) o fs = some sh →
    ∀ r, o + sh.length ≤ cs.length → o + sh.length ≤ ds.length → shEq sh ((cs.drop o).take sh.length) ((ds.drop o).take sh.length) = some r → (Op.eqFields D xs ys fs).run P w = .ok r w
  | [], o, sh, h, r, _, _, hr => by
    obtain rfl := Option.some.inj h
    simp [shEq] at hr
    subst hr
    rfl
  | f :: fs, o, sh, h, r, hc, hd, hr => by
    simp only [fieldsShape] at h
    split at h
    · rename_i l hl
      split at h
      · rename_i hcond
        obtain ⟨hname, hoff, hlen⟩ := hcond
        cases hrest : fieldsShape P (shapeOf P d) (o + l.length) fs with
        | none => rw [hrest] at h; cases h
        | some m =>
          rw [hrest] at h
          obtain rfl := Option.some.inj h
          simp only [List.length_append] at hc hd hr
          rw [drop_take_split, drop_take_split] at hr
          obtain ⟨x, y, hxx, hyy, rfl⟩ := shEq_append (by simp; omega) (by simp; omega) hr
          obtain ⟨u, v, hu, hv, he⟩ := ih f.type l hl hlen D hD xs ys cs ds o x hx hy (by omega) (by omega) hxx
          have hrec := eqFields_run hD hx hy ih fs (o + l.length) m hrest y (by omega) (by omega) hyy
          simp only [Op.eqFields, hname, ne_eq, not_false_eq_true, if_true, Sem.run_bind, hoff, hu, hv, he, Result.andThen_ok]
          cases x
          · simp
          · simpa using hrec
      · cases h
    · cases h

theorem repShape_length (l : List LK) (n : Nat) : (repShape l n).length = n * l.length := by
  induction n with
  | zero => simp [repShape]
  | succ n ih => simp [repShape, ih, Nat.add_mul]; omega

theorem eqItems_run {d D : Nat} (hD : d ≤ D) {e : TypeId} {l : List LK} (hl : l.length = P.cellsOf e) (ih : EqAt P w N d e l) {xs ys : Array Value} {cs ds : List CV} (hx : Reads w N xs cs) (hy : Reads w N ys ds) :
    ∀ (n k : Nat) (r : Bool), k * l.length + n * l.length ≤ cs.length → k * l.length + n * l.length ≤ ds.length →
    shEq (repShape l n) ((cs.drop (k * l.length)).take (n * l.length)) ((ds.drop (k * l.length)).take (n * l.length)) = some r → (Op.eqItems D e (P.cellsOf e) xs ys (List.range' k n)).run P w = .ok r w
  | 0, k, r, _, _, hr => by
    simp [repShape, shEq] at hr
    subst hr
    rfl
  | n + 1, k, r, hc, hd, hr => by
    rw [Nat.add_mul, Nat.one_mul, Nat.add_comm (n * l.length) l.length] at hc hd hr
    rw [drop_take_split, drop_take_split] at hr
    obtain ⟨x, y, hxx, hyy, rfl⟩ := shEq_append (l := l) (m := repShape l n) (by simp; omega) (by simp; omega) hr
    obtain ⟨u, v, hu, hv, he⟩ := ih D hD xs ys cs ds (k * l.length) x hx hy (by omega) (by omega) hxx
    have hk : k * l.length + l.length = (k + 1) * l.length := by rw [Nat.add_mul, Nat.one_mul]
    have hrec := eqItems_run hD hl ih hx hy n (k + 1) y (by omega) (by omega) (by rw [← hk]; exact hyy)
    simp only [List.range'_succ, Op.eqItems, Sem.run_bind, ← hl, hu, hv, he, Result.andThen_ok]
    rw [← hl] at hrec
    cases x
    · simp
    · simpa using hrec

theorem shape_info {d : Nat} {t : TypeId} {l : List LK} (h : shapeOf P d t = some l) : ∃ i, P.info? t = some i := by
  cases d with
  | zero => cases h
  | succ d =>
    cases hu : P.underlying t with
    | none => simp [shapeOf, hu] at h
    | some dd => exact info_of_underlying hu

theorem eq_part : ∀ (d : Nat) (t : TypeId) (sh : List LK), shapeOf P d t = some sh → sh.length = P.cellsOf t → EqAt P w N d t sh := by
  intro d
  induction d with
  | zero => intro t sh h; cases h
  | succ d ih =>
    intro t sh h hsz D hD xs ys cs ds o r hx hy hc hd' hr
    obtain ⟨D, rfl⟩ : ∃ D', D = D' + 1 := ⟨D - 1, by omega⟩
    simp only [shapeOf] at h
    have leaf : ∀ dd k, P.underlying t = some dd → dd.isRow = false → sh = [k] →
        (∀ (u v : Value) (c e : CV), V w N u c → V w N v e → shEq [k] [c] [e] = some r → (Op.equalIn (D + 1) t u v).run P w = .ok r w) →
        ∃ u v, (part t xs o).run P w = .ok u w ∧ (part t ys o).run P w = .ok v w ∧ (Op.equalIn (D + 1) t u v).run P w = .ok r w := by
      intro dd k hu hdd h1 hq
      subst h1
      simp only [List.length_singleton] at hc hd' hr
      have hxs : o < xs.size := by rw [hx.len]; omega
      have hys : o < ys.size := by rw [hy.len]; omega
      refine ⟨_, _, part_leaf hu hdd hxs, part_leaf hu hdd hys, ?_⟩
      rw [leaf_one hc, leaf_one hd'] at hr
      exact hq _ _ _ _ (hx.get o hxs (by omega)) (hy.get o hys (by omega)) hr
    split at h
    · rename_i hu
      refine leaf _ _ hu rfl (Option.some.inj h).symm fun u v c e hU hV hb => ?_
      cases c <;> cases e <;> simp only [shEq, Option.map_some, Bool.and_true] at hb <;> (try (cases hb; done))
      obtain rfl := Option.some.inj hb
      cases hU; cases hV
      exact run_equalIn_bool' w D t _ _ hu
    · rename_i k hu
      refine leaf _ _ hu rfl (Option.some.inj h).symm fun u v c e hU hV hb => ?_
      cases c <;> cases e <;> simp only [shEq, Option.map_some, Bool.and_true] at hb <;> (try (cases hb; done))
      split at hb
      · rename_i hk
        subst hk
        obtain rfl := Option.some.inj hb
        cases hU; cases hV
        exact run_equalIn_int w D t _ k _ _ hu
      · cases hb
    · rename_i hu
      refine leaf _ _ hu rfl (Option.some.inj h).symm fun u v c e hU hV hb => ?_
      cases c <;> cases e <;> simp only [shEq, Option.map_some, Bool.and_true] at hb <;> (try (cases hb; done))
      obtain rfl := Option.some.inj hb
      cases hU; cases hV
      exact run_equalIn_string w D t _ _ hu
    · rename_i fs hu
      split at h
      · cases h
      · rename_i hst
        have hst : P.stoodInHeld t = false := by simpa using hst
        obtain ⟨i, hi⟩ := info_of_underlying hu
        refine ⟨_, _, part_row hu rfl hi, part_row hu rfl hi, ?_⟩
        have hf : P.fieldsOf t = fs := by simp [Program.fieldsOf, hu]
        rw [run_equalIn_struct w D t _ _ (by rw [hf]; exact hu) hst, hf]
        rw [← hsz]
        refine eqFields_run (d := d) (by omega) (hx.extract o sh.length hc) (hy.extract o sh.length hd') (fun t sh h1 h2 => ih t sh h1 h2) fs.toList 0 sh h r (by simp; omega) (by simp; omega) ?_
        simpa [List.take_take] using hr
    · rename_i n e hu
      split at h
      · rename_i l hl
        split at h
        · rename_i hle
          obtain rfl := Option.some.inj h
          obtain ⟨i, hi⟩ := info_of_underlying hu
          refine ⟨_, _, part_row hu rfl hi, part_row hu rfl hi, ?_⟩
          obtain ⟨i', hi'⟩ := shape_info hl
          rw [run_equalIn_array w D _ _ hu hi', ← hsz, List.range_eq_range']
          rw [repShape_length] at hc hd' hr ⊢
          refine eqItems_run (d := d) (by omega) hle (ih e l hl hle) (hx.extract o _ hc) (hy.extract o _ hd') n 0 r (by simp; omega) (by simp; omega) ?_
          simpa [List.take_take] using hr
        · cases h
      · cases h
    · cases h
end
end Go.Pl

/-
  THE PLAIN CODE OF A FUNCTION IS CHECKED AGAINST THE FUNCTION, operation by operation, by a computable test. My own work.
-/
import Derived.Test.YtcmejdkjfekoeaaPlXf
namespace Go.Pl
open Go
set_option linter.unusedVariables false

def isRow' (P : Program) (t : TypeId) : Bool := match P.underlying t with | some d => d.isRow | none => false

def chkK (P : Program) (o : Oper) : PK → Bool
  | .mv y => match o.op with
    | .move x => chkPO x y
    | .assign x => chkPO x y
    | _ => false
  | .pick c x y => match o.op with
    | .pick c' x' y' => chkPO c' c && chkPO x' x && chkPO y' y
    | _ => false
  | .own0 _ => o.dst.isSome && match o.op with
    | .move x => chkPO x (.k (.sl []))
    | .assign x => chkPO x (.k (.sl []))
    | _ => false
  | .alloc z => o.dst.isSome && match o.op with
    | .alloc el => match P.info? el with
      | some i => match i.zero with
        | some zv => chkL zv.cells.toList z
        | none => false
      | none => false
    | _ => false
  | .box n y => o.dst.isSome && decide (0 < n) && match o.op with
    | .box _ x => chkPO x y
    | _ => false
  | .build z qs => match o.op with
    | .build t parts => match P.info? t, P.underlying t with
      | some i, some (.struct fs) => match i.zero with
        | some zv => chkL zv.cells.toList z && fs.toList.all (fun f => (P.info? f.type).isSome) && chkParts (fun k => (fs[k]?).map fun f => (f.offset, P.cellsOf f.type)) parts.toList qs
        | none => false
      | some i, some (.array _ e) => match i.zero, P.info? e with
        | some zv, some j => chkL zv.cells.toList z && chkParts (fun k => some (k * j.size, j.size)) parts.toList qs
        | _, _ => false
      | _, _ => false
    | _ => false
  | .bsl sz len zc qs _ => decide (0 < sz) && decide (len * sz ≤ 2 ^ 24) && match o.op with
    | .buildSlice t l parts => decide (l = len) && match P.underlying t with
      | some (.slice e) => match P.info? e with
        | some i => decide (i.size = sz) && match i.zero with
          | some zv => chkL zv.cells.toList zc && decide (zc.length = sz) && chkPartsS parts.toList qs
          | none => false
        | none => false
      | _ => false
    | _ => false
  | .load f n y _ => match o.op with
    | .load t x => match P.underlying t, P.info? t with
      | some d, some i => chkPO x y && decide (i.size = n) && (d.isRow == f) && (f || decide (n = 1))
      | _, _ => false
    | _ => false
  | .store n x y _ => o.dst.isNone && decide (0 < n) && match o.op with
    | .store t x' y' => match P.info? t with
      | some i => decide (i.size = n) && chkPO x' x && chkPO y' y
      | none => false
    | _ => false
  | .bin op x y => match o.op with
    | .binOp op' _ x' y' _ => decide (op' = op) && chkPO x' x && chkPO y' y
    | _ => false
  | .un op x => match o.op with
    | .unOp op' _ x' => decide (op' = op) && chkPO x' x
    | _ => false
  | .eqs neq ag sh x y => match o.op with
    | .binOp op' t x' y' _ => decide (op' = if neq then .neq else .eql) && chkPO x' x && chkPO y' y && decide (shapeOf P 50 t = some sh) && decide (sh.length = P.cellsOf t) && (P.eqGuardType P.depth t == false) && (isRow' P t == ag) && (ag || decide (sh = [.b]))
    | _ => false
  | .conv k y => match o.op with
    | .convert src dst x => match P.underlying src, P.underlying dst with
      | some (.int _), some (.int k') => decide (k' = k) && chkPO x y
      | _, _ => false
    | _ => false
  | .fld f off n y => match o.op with
    | .field t x j => match P.underlying t with
      | some (.struct fs) => match fs[j]? with
        | some fd => match P.info? fd.type, P.underlying fd.type with
          | some i, some d => decide (fd.offset = off) && decide (i.size = n) && (d.isRow == f) && (f || decide (n = 1)) && chkPO x y
          | _, _ => false
        | none => false
      | _ => false
    | _ => false
  | .fad off y => match o.op with
    | .fieldAddr t x j => match P.underlying t with
      | some (.struct fs) => match fs[j]? with
        | some fd => match P.info? fd.type with
          | some i => decide (fd.offset = off) && decide (i.size ≠ 0) && chkPO x y
          | none => false
        | none => false
      | _ => false
    | _ => false
  | .iaA len sz y iy => match o.op with
    | .indexAddr t x ix => match P.underlying t with
      | some (.array l e) => match P.info? e with
        | some i => decide (l = len) && decide (i.size = sz) && chkPO x y && chkPO ix iy
        | none => false
      | _ => false
    | _ => false
  | .iaS sz y iy => match o.op with
    | .indexAddr t x ix => match P.underlying t with
      | some (.slice e) => match P.info? e with
        | some i => decide (i.size = sz) && chkPO x y && chkPO ix iy
        | none => false
      | _ => false
    | _ => false
  | .idA f len sz y iy => match o.op with
    | .index t x ix => match P.underlying t with
      | some (.array l e) => match P.info? e, P.underlying e with
        | some i, some d => decide (l = len) && decide (i.size = sz) && (d.isRow == f) && (f || decide (sz = 1)) && chkPO x y && chkPO ix iy
        | _, _ => false
      | _ => false
    | _ => false
  | .idS y iy => match o.op with
    | .index t x ix => match P.underlying t with
      | some .string => chkPO x y && chkPO ix iy
      | _ => false
    | _ => false
  | .ext y j => match o.op with
    | .extract x j' => decide (j' = j) && chkPO x y
    | _ => false
  | .len y => match o.op with
    | .call ⟨.builtin .len, ⟨[x]⟩, tys⟩ => match tys[0]? with
      | some t => match P.underlying t with
        | some (.slice _) => chkPO x y
        | _ => false
      | none => false
    | _ => false
  | .lenS y => match o.op with
    | .call ⟨.builtin .len, ⟨[x]⟩, tys⟩ => match tys[0]? with
      | some t => match P.underlying t with
        | some .string => chkPO x y
        | _ => false
      | none => false
    | _ => false
  | .app sz x y _ => decide (0 < sz) && match o.op with
    | .call ⟨.builtin .append, ⟨[x', y']⟩, ⟨[t, u]⟩⟩ => match P.underlying t, P.underlying u with
      | some (.slice e), some (.slice _) => match P.info? e with
        | some i => decide (i.size = sz) && decide (i.bytes ≤ 16384) && decide (i.bytes ≠ 0) && chkPO x' x && chkPO y' y && match i.zero with
          | some zv => decide (zv.cells.size = sz)
          | none => false
        | none => false
      | _, _ => false
    | _ => false
  | .slc sz y lo hi => match o.op with
    | .slice t x lo' hi' none => match P.underlying t with
      | some (.slice e) => match P.info? e with
        | some i => decide (i.size = sz) && chkPO x y && chkOO lo' lo && chkOO hi' hi
        | none => false
      | _ => false
    | _ => false
  | .slS y lo hi => match o.op with
    | .slice t x lo' hi' none => match P.underlying t with
      | some .string => chkPO x y && chkOO lo' lo && chkOO hi' hi
      | _ => false
    | _ => false
  | .slA _ _ _ _ _ => false
  | .nilc y => match o.op with
    | .nilCheck x => chkPO x y
    | _ => false
  | .mki t y => match o.op with
    | .makeInterface t' x => decide (t' = t) && chkPO x y && match P.underlying t with
      | some (.interface _) => false
      | some _ => true
      | none => false
    | _ => false
  | .mm mx y ys => match o.op with
    | .call ⟨.builtin b, ⟨x :: xs⟩, _⟩ => decide (b = if mx then .max else .min) && chkPO x y && chkPOs xs ys
    | _ => false
  | .xf g ys => match o.op with
    | .call ⟨.value (.func f), cargs, _⟩ => chkPOs cargs.toList ys && match P.funcs[f]? with
      | some fn => decide (fn.name = g.name) && decide (fn.origin = "") && fn.body.isNone
      | none => false
    | _ => false
  | .call _ _ _ => false

section
variable {O A0 : Nat → Prop} {w0 w : World} {β : Bt} {s : PS} {a : Act} {P : Program}

theorem chkK_ok {o : Oper} {k : PK} (hk : chkK P o k = true) (h : Sim O w0 A0 β s (tmf a) w) (hd : dstOk o.dst a.tmps.size) {s' : PS} (hs : pstep o.dst s k = some s') : Does P o O A0 w0 a w s' := by
  cases k <;> simp only [chkK] at hk
  case mv y =>
    split at hk
    · exact ok_mv (.inl ‹_›) h hd hk hs
    · exact ok_mv (.inr ‹_›) h hd hk hs
    · cases hk
  case pick c x y =>
    split at hk
    · simp only [Bool.and_eq_true] at hk
      exact ok_pick ‹_› h hd hk.1.1 hk.1.2 hk.2 hs
    · cases hk
  case own0 sz =>
    simp only [Bool.and_eq_true] at hk
    obtain ⟨h0, hk⟩ := hk
    obtain ⟨d, hdst⟩ := Option.isSome_iff_exists.1 h0
    split at hk
    · exact ok_own0 (.inl ‹_›) hk h hdst (hd d hdst) hs
    · exact ok_own0 (.inr ‹_›) hk h hdst (hd d hdst) hs
    · cases hk
  case alloc z =>
    simp only [Bool.and_eq_true] at hk
    obtain ⟨h0, hk⟩ := hk
    obtain ⟨d, hdst⟩ := Option.isSome_iff_exists.1 h0
    split at hk <;> (try (cases hk; done))
    split at hk <;> (try (cases hk; done))
    split at hk <;> (try (cases hk; done))
    exact ok_alloc ‹_› h hdst (hd d hdst) ‹_› ‹_› hk hs
  case box n y =>
    simp only [Bool.and_eq_true, decide_eq_true_eq] at hk
    obtain ⟨⟨h0, hn⟩, hk⟩ := hk
    obtain ⟨d, hdst⟩ := Option.isSome_iff_exists.1 h0
    split at hk <;> (try (cases hk; done))
    exact ok_box ‹_› h hdst (hd d hdst) hk hn hs
  case build z qs =>
    split at hk <;> (try (cases hk; done))
    split at hk <;> (try (cases hk; done))
    · split at hk <;> (try (cases hk; done))
      simp only [Bool.and_eq_true, List.all_eq_true] at hk
      exact ok_build ‹_› h hd ‹_› ‹_› hk.1.1 (.inl ⟨_, ‹_›, fun f hf => Option.isSome_iff_exists.1 (hk.1.2 f hf), hk.2⟩) hs
    · split at hk <;> (try (cases hk; done))
      simp only [Bool.and_eq_true] at hk
      exact ok_build ‹_› h hd ‹_› ‹_› hk.1 (.inr ⟨_, _, _, ‹_›, ‹_›, hk.2⟩) hs
  case bsl sz len zc qs own =>
    simp only [Bool.and_eq_true, decide_eq_true_eq] at hk
    obtain ⟨⟨h1, h2⟩, hk⟩ := hk
    split at hk <;> (try (cases hk; done))
    simp only [Bool.and_eq_true, decide_eq_true_eq] at hk
    obtain ⟨rfl, hk⟩ := hk
    split at hk <;> (try (cases hk; done))
    split at hk <;> (try (cases hk; done))
    simp only [Bool.and_eq_true, decide_eq_true_eq] at hk
    obtain ⟨h3, hk⟩ := hk
    split at hk <;> (try (cases hk; done))
    simp only [Bool.and_eq_true, decide_eq_true_eq] at hk
    exact ok_bsl ‹_› h hd ‹_› ‹_› h3 h1 h2 ‹_› hk.1.1 hk.1.2 hk.2 hs
  case load f n y av =>
    split at hk <;> (try (cases hk; done))
    split at hk <;> (try (cases hk; done))
    simp only [Bool.and_eq_true, Bool.or_eq_true, decide_eq_true_eq, beq_iff_eq] at hk
    obtain ⟨⟨⟨h1, h2⟩, h3⟩, h4⟩ := hk
    exact ok_load ‹_› h hd h1 _ _ ‹_› ‹_› h2 h3 (fun e => h4.resolve_left (by rw [e]; simp)) hs
  case store n x y av =>
    simp only [Bool.and_eq_true, decide_eq_true_eq] at hk
    obtain ⟨⟨h0, hn⟩, hk⟩ := hk
    split at hk <;> (try (cases hk; done))
    split at hk <;> (try (cases hk; done))
    simp only [Bool.and_eq_true, decide_eq_true_eq] at hk
    exact ok_store ‹_› h (by simpa using h0) hk.1.2 hk.2 ‹_› hk.1.1 hn hs
  case bin op x y =>
    split at hk <;> (try (cases hk; done))
    simp only [Bool.and_eq_true, decide_eq_true_eq] at hk
    obtain ⟨⟨rfl, h1⟩, h2⟩ := hk
    exact ok_bin ‹_› h hd h1 h2 hs
  case un op x =>
    split at hk <;> (try (cases hk; done))
    simp only [Bool.and_eq_true, decide_eq_true_eq] at hk
    obtain ⟨rfl, h1⟩ := hk
    exact ok_un ‹_› h hd h1 hs
  case eqs neq ag sh x y =>
    split at hk <;> (try (cases hk; done))
    simp only [Bool.and_eq_true, Bool.or_eq_true, decide_eq_true_eq, beq_iff_eq] at hk
    obtain ⟨⟨⟨⟨⟨⟨⟨rfl, h1⟩, h2⟩, h3⟩, h4⟩, h5⟩, h6⟩, h7⟩ := hk
    exact ok_eqs ‹_› h hd h1 h2 h3 h4 h5 h6 (fun e => h7.resolve_left (by rw [e]; simp)) hs
  case conv k y =>
    split at hk <;> (try (cases hk; done))
    split at hk <;> (try (cases hk; done))
    simp only [Bool.and_eq_true, decide_eq_true_eq] at hk
    obtain ⟨rfl, h1⟩ := hk
    exact ok_conv ‹_› h hd h1 ‹_› ‹_› hs
  case fld f off n y =>
    split at hk <;> (try (cases hk; done))
    split at hk <;> (try (cases hk; done))
    split at hk <;> (try (cases hk; done))
    split at hk <;> (try (cases hk; done))
    simp only [Bool.and_eq_true, Bool.or_eq_true, decide_eq_true_eq, beq_iff_eq] at hk
    obtain ⟨⟨⟨⟨h1, h2⟩, h3⟩, h4⟩, h5⟩ := hk
    exact ok_fld ‹_› h hd h5 ‹_› ‹_› h1 ‹_› h2 ‹_› h3 (fun e => h4.resolve_left (by rw [e]; simp)) hs
  case fad off y =>
    split at hk <;> (try (cases hk; done))
    split at hk <;> (try (cases hk; done))
    split at hk <;> (try (cases hk; done))
    split at hk <;> (try (cases hk; done))
    simp only [Bool.and_eq_true, decide_eq_true_eq] at hk
    exact ok_fad ‹_› h hd hk.2 ‹_› ‹_› hk.1.1 ‹_› hk.1.2 hs
  case iaA len sz y iy =>
    split at hk <;> (try (cases hk; done))
    split at hk <;> (try (cases hk; done))
    split at hk <;> (try (cases hk; done))
    simp only [Bool.and_eq_true, decide_eq_true_eq] at hk
    obtain ⟨⟨⟨rfl, h1⟩, h2⟩, h3⟩ := hk
    exact ok_iaA ‹_› h hd h2 h3 ‹_› ‹_› h1 hs
  case iaS sz y iy =>
    split at hk <;> (try (cases hk; done))
    split at hk <;> (try (cases hk; done))
    split at hk <;> (try (cases hk; done))
    simp only [Bool.and_eq_true, decide_eq_true_eq] at hk
    exact ok_iaS ‹_› h hd hk.1.2 hk.2 ‹_› ‹_› hk.1.1 hs
  case idA f len sz y iy =>
    split at hk <;> (try (cases hk; done))
    split at hk <;> (try (cases hk; done))
    split at hk <;> (try (cases hk; done))
    simp only [Bool.and_eq_true, Bool.or_eq_true, decide_eq_true_eq, beq_iff_eq] at hk
    obtain ⟨⟨⟨⟨⟨rfl, h1⟩, h2⟩, h3⟩, h4⟩, h5⟩ := hk
    exact ok_idA ‹_› h hd h4 h5 ‹_› ‹_› h1 ‹_› h2 (fun e => h3.resolve_left (by rw [e]; simp)) hs
  case idS y iy =>
    split at hk <;> (try (cases hk; done))
    split at hk <;> (try (cases hk; done))
    simp only [Bool.and_eq_true] at hk
    exact ok_idS ‹_› h hd hk.1 hk.2 ‹_› hs
  case ext y j =>
    split at hk <;> (try (cases hk; done))
    simp only [Bool.and_eq_true, decide_eq_true_eq] at hk
    obtain ⟨rfl, h1⟩ := hk
    exact ok_ext ‹_› h hd h1 hs
  case len y =>
    split at hk <;> (try (cases hk; done))
    split at hk <;> (try (cases hk; done))
    split at hk <;> (try (cases hk; done))
    exact ok_len ‹_› rfl rfl ‹_› h hd hk ‹_› hs
  case lenS y =>
    split at hk <;> (try (cases hk; done))
    split at hk <;> (try (cases hk; done))
    split at hk <;> (try (cases hk; done))
    exact ok_lenS ‹_› rfl rfl ‹_› h hd hk ‹_› hs
  case app sz x y own =>
    simp only [Bool.and_eq_true, decide_eq_true_eq] at hk
    obtain ⟨h0, hk⟩ := hk
    split at hk <;> (try (cases hk; done))
    split at hk <;> (try (cases hk; done))
    split at hk <;> (try (cases hk; done))
    simp only [Bool.and_eq_true, decide_eq_true_eq] at hk
    obtain ⟨⟨⟨⟨⟨h1, h2⟩, h3⟩, h4⟩, h5⟩, hk⟩ := hk
    split at hk <;> (try (cases hk; done))
    exact ok_app ‹_› rfl rfl rfl h hd h4 h5 ‹_› ‹_› ‹_› h1 h0 h2 h3 ‹_› (of_decide_eq_true hk) hs
  case slc sz y lo hi =>
    split at hk <;> (try (cases hk; done))
    split at hk <;> (try (cases hk; done))
    split at hk <;> (try (cases hk; done))
    simp only [Bool.and_eq_true, decide_eq_true_eq] at hk
    exact ok_slc ‹_› h hd hk.1.1.2 hk.1.2 hk.2 ‹_› ‹_› hk.1.1.1 hs
  case slS y lo hi =>
    split at hk <;> (try (cases hk; done))
    split at hk <;> (try (cases hk; done))
    simp only [Bool.and_eq_true] at hk
    exact ok_slS ‹_› h hd hk.1.1 hk.1.2 hk.2 ‹_› hs
  case slA => cases hk
  case nilc y =>
    split at hk <;> (try (cases hk; done))
    exact ok_nilc ‹_› h hd hk hs
  case mki t y =>
    split at hk <;> (try (cases hk; done))
    simp only [Bool.and_eq_true, decide_eq_true_eq] at hk
    obtain ⟨⟨rfl, h1⟩, hk⟩ := hk
    split at hk <;> (try (cases hk; done))
    rename_i d hne hu
    exact ok_mki ‹_› h hd h1 hu (by cases d <;> first | rfl | (exact absurd rfl (hne _))) hs
  case mm mx y ys =>
    split at hk <;> (try (cases hk; done))
    simp only [Bool.and_eq_true, decide_eq_true_eq] at hk
    obtain ⟨⟨rfl, h1⟩, h2⟩ := hk
    exact ok_mm ‹_› rfl rfl h hd h1 h2 hs
  case xf g ys =>
    split at hk <;> (try (cases hk; done))
    simp only [Bool.and_eq_true] at hk
    obtain ⟨h1, hk⟩ := hk
    split at hk <;> (try (cases hk; done))
    simp only [Bool.and_eq_true, decide_eq_true_eq] at hk
    exact ok_xf ‹_› ‹_› hk.1.1 hk.1.2 hk.2 h hd h1 hs
  case call => cases hk
end
end Go.Pl

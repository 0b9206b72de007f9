/-
  WHAT A PLAIN OPERATION READS AND WRITES: so that operations of a statement whose order is open may change places. My own work.
-/
import Derived.Test.YtcmejdkjfekoeaaPlStep
namespace Go.Pl
set_option linter.unusedVariables false
set_option linter.unusedSimpArgs false

inductive Cl where
  | pure | kr | mr | mw | x
  deriving DecidableEq

def optl : Option PO → List PO
  | some x => [x]
  | none => []

def opds : PK → List PO
  | .mv x | .box _ x | .load _ _ x _ | .un _ x | .conv _ x | .fld _ _ _ x | .fad _ x | .ext x _ | .len x | .lenS x | .nilc x | .mki _ x => [x]
  | .pick c a b => [c, a, b]
  | .own0 _ | .alloc _ => []
  | .build _ ps => ps.map (·.2.2)
  | .bsl _ _ _ ps _ => ps.map (·.2)
  | .store _ a x _ | .bin _ a x | .eqs _ _ _ a x | .iaA _ _ a x | .iaS _ a x | .idA _ _ _ a x | .idS a x | .app _ a x _ => [a, x]
  | .slc _ x lo hi | .slS x lo hi | .slA _ _ x lo hi => x :: (optl lo ++ optl hi)
  | .mm _ x l => x :: l
  | .xf _ l => l
  | .call _ _ l => l

/-- the operand that may lead to a box -/
def key : PK → Option PO
  | .load _ _ x _ | .fad _ x | .len x | .nilc x | .iaA _ _ x _ | .iaS _ x _ | .store _ x _ _ | .app _ x _ _ => some x
  | .call true _ (x :: _) => some x
  | _ => none

def cls : PK → Cl
  | .load _ _ _ _ => .mr
  | .store _ _ _ _ => .mw
  | .fad _ _ | .iaA _ _ _ _ | .iaS _ _ _ | .nilc _ | .len _ => .kr
  | .app _ _ _ _ | .call true _ _ => .x
  | _ => .pure

def tmpsOf (l : List PO) : List Nat := l.filterMap fun | .t i => some i | .k _ => none

def refOf : PV → Option (Nat × Nat)
  | .ptr d v _ => some (d, v)
  | .osl d v _ _ => some (d, v)
  | .sp d v _ _ => some (d, v)
  | _ => none

/-- the box that an operation looks into, and which making of it -/
def ref (k : PK) (s : PS) : Option (Nat × Nat) := (key k).bind fun x => refOf (s.ev x)

def kindEq (b b' : Box) : Prop := b.ver = b'.ver ∧ (match b.st, b'.st with
  | .var _, .var _ | .vfz _, .vfz _ | .dead, .dead => True
  | .sl z _, .sl z' _ => z = z'
  | _, _ => False)

theorem kindEq.refl (b : Box) : kindEq b b := by
  obtain ⟨v, st⟩ := b
  cases st <;> exact ⟨rfl, by simp⟩

def opReads (k : PK) : List Nat := tmpsOf (opds k)

theorem ev_agree {s u : PS} {k : PK} (h : ∀ t ∈ opReads k, u.t t = s.t t) : ∀ x ∈ opds k, u.ev x = s.ev x := by
  intro x hx
  cases x with
  | t i => exact h i (List.mem_filterMap.2 ⟨.t i, hx, rfl⟩)
  | k v => rfl

theorem evc_agree {s u : PS} {x : PO} (h : u.ev x = s.ev x) : u.evc x = s.evc x := by simp only [PS.evc, h]

/-- what an operation does: a value for its slot, boxes anew -/
def upd (dst : Option Nat) (v : PV) (wb : Nat → Option Box) (u : PS) : PS where
  t := fun i => if some i = dst then v else u.t i
  bx := fun i => (wb i).getD (u.bx i)

def nob : Nat → Option Box := fun _ => none
def oneb (d : Nat) (b : Box) : Nat → Option Box := fun i => if i = d then some b else none

theorem upd_putO (dst : Option Nat) (v : PV) (u : PS) : u.putO dst v = upd dst v nob u := by
  cases dst with
  | none => simp [PS.putO, upd, nob]
  | some d => simp [PS.putO, PS.put, upd, nob]
theorem upd_box (v : PV) (d e : Nat) (b : Box) (u : PS) : (u.box e b).put d v = upd (some d) v (oneb e b) u := by
  simp only [PS.put, PS.box, upd, PS.mk.injEq]
  refine ⟨by funext i; simp, ?_⟩
  funext i
  by_cases h : i = e <;> simp [oneb, h]
theorem upd_boxn (e : Nat) (b : Box) (u : PS) : u.box e b = upd none .undef (oneb e b) u := by
  simp only [PS.box, upd, PS.mk.injEq]
  refine ⟨by funext i; simp, ?_⟩
  funext i
  by_cases h : i = e <;> simp [oneb, h]

/-- a step that looks into no box: it does the same from every state with the same operands -/
def Pure1 (dst : Option Nat) (k : PK) : Prop := ∀ (s u s' : PS), (∀ t ∈ opReads k, u.t t = s.t t) → pstep dst s k = some s' → ∃ v, s' = s.putO dst v ∧ pstep dst u k = some (u.putO dst v)

theorem evcs_agree {s u : PS} : ∀ {l : List PO}, (∀ x ∈ l, u.ev x = s.ev x) → evcs u l = evcs s l
  | [], _ => rfl
  | x :: l, h => by simp only [evcs, evc_agree (h x (by simp)), evcs_agree (l := l) fun y hy => h y (by simp [hy])]
theorem partsC_agree {s u : PS} : ∀ {l : List (Nat × Nat × PO)}, (∀ x ∈ l.map (·.2.2), u.ev x = s.ev x) → partsC u l = partsC s l
  | [], _ => rfl
  | (a, b, x) :: l, h => by simp only [partsC, evc_agree (h x (by simp)), partsC_agree (l := l) fun y hy => h y (by simp at hy ⊢; exact .inr hy)]
theorem partsS_agree {s u : PS} : ∀ {l : List (Nat × PO)}, (∀ x ∈ l.map (·.2), u.ev x = s.ev x) → partsS u l = partsS s l
  | [], _ => rfl
  | (a, x) :: l, h => by simp only [partsS, evc_agree (h x (by simp)), partsS_agree (l := l) fun y hy => h y (by simp at hy ⊢; exact .inr hy)]
theorem foldMm_agree {s u : PS} {mx : Bool} {k : IntKind} : ∀ {l : List PO} {a : Int}, (∀ x ∈ l, u.ev x = s.ev x) → foldMm u mx k a l = foldMm s mx k a l
  | [], _, _ => rfl
  | x :: l, a, h => by
    simp only [foldMm, evc_agree (h x (by simp))]
    split
    · split
      · exact foldMm_agree (l := l) fun y hy => h y (by simp [hy])
      · rfl
    · rfl
theorem bound_agree {s u : PS} {n : Nat} {o : Option PO} (h : ∀ x ∈ optl o, u.ev x = s.ev x) : bound u n o = bound s n o := by
  cases o with
  | none => rfl
  | some x => simp only [bound, evc_agree (h x (by simp [optl]))]

/-- 'hs' parted to its ends; each end is a value for the slot -/
theorem pure_mv (dst : Option Nat) (x : PO) : Pure1 dst (.mv x) := by
  intro s u s' h hs
  have he := ev_agree h
  simp only [opds, List.mem_singleton, forall_eq] at he
  simp only [pstep, he] at hs ⊢
  exact ⟨_, (Option.some.inj hs).symm, rfl⟩

theorem locPure {dst : Option Nat} {k : PK} (hk : cls k = .pure) (hn : isNew k = false) (hc : ∀ m f l, k ≠ .call m f l) : Pure1 dst k := by
  intro s u s' h hs
  have he := ev_agree h
  cases k <;> simp only [cls, isNew, reduceCtorEq] at hk hn
  case mv x => exact pure_mv dst x s u s' h hs
  case pick c a b =>
    simp only [opds, List.mem_cons, List.not_mem_nil, or_false, forall_eq_or_imp, forall_eq] at he
    simp only [pstep, he.1, he.2.1, he.2.2] at hs ⊢
    split at hs <;> first | (cases hs; done) | exact ⟨_, (Option.some.inj hs).symm, rfl⟩
  case build z ps =>
    have hp := partsC_agree (s := s) (u := u) (l := ps) he
    simp only [pstep, hp] at hs ⊢
    split at hs
    · rename_i l hl
      cases hf : fillC z l with
      | none => rw [hf] at hs; cases hs
      | some cs =>
        rw [hf] at hs
        exact ⟨_, (Option.some.inj hs).symm, by simp [hl, hf]⟩
    · cases hs
  case bsl sz len zc ps own =>
    subst hn
    have hp := partsS_agree (s := s) (u := u) (l := ps) he
    simp only [pstep, hp] at hs ⊢
    split at hs
    · rename_i l hl
      split at hs
      · rename_i es hf
        exact ⟨_, (Option.some.inj hs).symm, by simp [hl, hf]⟩
      · rename_i hb; cases hb
      · cases hs
    · cases hs
  case bin op x y =>
    simp only [opds, List.mem_cons, List.not_mem_nil, or_false, forall_eq_or_imp, forall_eq] at he
    simp only [pstep, evc_agree he.1, evc_agree he.2] at hs ⊢
    split at hs
    · rename_i a b ha hb
      cases hf : binC op a b with
      | none => rw [hf] at hs; cases hs
      | some cs =>
        rw [hf] at hs
        exact ⟨_, (Option.some.inj hs).symm, by simp [ha, hb, hf]⟩
    · cases hs
  case un op x =>
    simp only [opds, List.mem_singleton, forall_eq] at he
    simp only [pstep, evc_agree he] at hs ⊢
    split at hs
    · rename_i a ha
      cases hf : unC op a with
      | none => rw [hf] at hs; cases hs
      | some cs =>
        rw [hf] at hs
        exact ⟨_, (Option.some.inj hs).symm, by simp [ha, hf]⟩
    · cases hs
  case eqs neq ag sh x y =>
    simp only [opds, List.mem_cons, List.not_mem_nil, or_false, forall_eq_or_imp, forall_eq] at he
    simp only [pstep, evc_agree he.1, evc_agree he.2] at hs ⊢
    split at hs
    · rename_i a b ha hb
      cases hf : eqC ag sh a b with
      | none => rw [hf] at hs; cases hs
      | some cs =>
        rw [hf] at hs
        exact ⟨_, (Option.some.inj hs).symm, by simp [ha, hb, hf]⟩
    · cases hs
  case conv k x =>
    simp only [opds, List.mem_singleton, forall_eq] at he
    simp only [pstep, evc_agree he] at hs ⊢
    split at hs
    · rename_i ha; exact ⟨_, (Option.some.inj hs).symm, by simp [ha]⟩
    · cases hs
  case fld a o n x =>
    simp only [opds, List.mem_singleton, forall_eq] at he
    simp only [pstep, evc_agree he] at hs ⊢
    split at hs
    · rename_i ha
      split at hs
      · rename_i hc; exact ⟨_, (Option.some.inj hs).symm, by simp [ha, hc]⟩
      · cases hs
    · cases hs
  case idA a len sz x i =>
    simp only [opds, List.mem_cons, List.not_mem_nil, or_false, forall_eq_or_imp, forall_eq] at he
    simp only [pstep, evc_agree he.1, evc_agree he.2] at hs ⊢
    split at hs
    · rename_i ha hb
      split at hs
      · rename_i hc; exact ⟨_, (Option.some.inj hs).symm, by rw [if_pos hc]⟩
      · cases hs
    · cases hs
  case idS x i =>
    simp only [opds, List.mem_cons, List.not_mem_nil, or_false, forall_eq_or_imp, forall_eq] at he
    simp only [pstep, evc_agree he.1, evc_agree he.2] at hs ⊢
    split at hs
    · rename_i ha hb
      split at hs
      · rename_i hc
        split at hs
        · rename_i hd; exact ⟨_, (Option.some.inj hs).symm, by rw [if_pos hc]⟩
        · cases hs
      · cases hs
    · cases hs
  case ext x j =>
    simp only [opds, List.mem_singleton, forall_eq] at he
    simp only [pstep, evc_agree he] at hs ⊢
    split at hs
    · rename_i ha
      split at hs
      · rename_i hc; exact ⟨_, (Option.some.inj hs).symm, by simp [ha, hc]⟩
      · cases hs
    · cases hs
  case lenS x =>
    simp only [opds, List.mem_singleton, forall_eq] at he
    simp only [pstep, evc_agree he] at hs ⊢
    split at hs
    · rename_i ha; exact ⟨_, (Option.some.inj hs).symm, by simp [ha]⟩
    · cases hs
  case slc sz x lo hi =>
    have h1 := he x (by simp [opds])
    have h2 : ∀ n, bound u n lo = bound s n lo := fun n => bound_agree fun y hy => he y (by simp [opds, hy])
    have h3 : ∀ n, bound u n hi = bound s n hi := fun n => bound_agree fun y hy => he y (by simp [opds, hy])
    simp only [pstep, h1, h2, h3] at hs ⊢
    split at hs
    · rename_i es ha
      split at hs
      · rename_i l k hl hk
        split at hs
        · rename_i hc; exact ⟨_, (Option.some.inj hs).symm, by rw [if_pos hc]⟩
        · cases hs
      · cases hs
    · cases hs
  case slS x lo hi =>
    have h1 := he x (by simp [opds])
    have h2 : ∀ n, bound u n lo = bound s n lo := fun n => bound_agree fun y hy => he y (by simp [opds, hy])
    have h3 : ∀ n, bound u n hi = bound s n hi := fun n => bound_agree fun y hy => he y (by simp [opds, hy])
    simp only [pstep, evc_agree h1, h2, h3] at hs ⊢
    split at hs
    · rename_i es ha
      split at hs
      · rename_i l k hl hk
        split at hs
        · rename_i hc; exact ⟨_, (Option.some.inj hs).symm, by rw [if_pos hc]⟩
        · cases hs
      · cases hs
    · cases hs
  case slA => cases hs
  case mki t x =>
    simp only [opds, List.mem_singleton, forall_eq] at he
    simp only [pstep, evc_agree he] at hs ⊢
    split at hs
    · rename_i ha; exact ⟨_, (Option.some.inj hs).symm, by simp [ha]⟩
    · cases hs
  case mm mx x l =>
    have h1 := he x (by simp [opds])
    have h2 : ∀ k a, foldMm u mx k a l = foldMm s mx k a l := fun k a => foldMm_agree fun y hy => he y (by simp [opds, hy])
    simp only [pstep, evc_agree h1, h2] at hs ⊢
    split at hs
    · rename_i ha
      split at hs
      · rename_i hc; exact ⟨_, (Option.some.inj hs).symm, by simp [ha, hc]⟩
      · cases hs
    · cases hs
  case xf g l =>
    simp only [pstep, evcs_agree (l := l) fun y hy => he y hy] at hs ⊢
    split at hs
    · rename_i cs ha
      cases hf : xfC g cs with
      | none => rw [hf] at hs; cases hs
      | some v =>
        rw [hf] at hs
        exact ⟨_, (Option.some.inj hs).symm, by simp [ha, hf]⟩
    · cases hs
  case call m f l => exact absurd rfl (hc _ _ _)

/-- the boxes that an operation looks into are as they were -/
def AgB (k : PK) (dst : Option Nat) (s u : PS) : Prop :=
  (∀ e ver, ref k s = some (e, ver) → (cls k = .kr → kindEq (s.bx e) (u.bx e)) ∧ (cls k ≠ .kr → u.bx e = s.bx e)) ∧ (isNew k = true → ∀ d, dst = some d → u.bx d = s.bx d)

def Wb (k : PK) (dst : Option Nat) (s : PS) (wb : Nat → Option Box) : Prop :=
  ∀ i b, wb i = some b → (cls k = .mw ∧ (∃ ver, ref k s = some (i, ver)) ∧ kindEq (s.bx i) b) ∨ (cls k = .x ∧ ∃ ver, ref k s = some (i, ver)) ∨ (isNew k = true ∧ dst = some i ∧ (s.bx i).ver < b.ver)

structure LocK (C : CallP) (dst : Option Nat) (k : PK) (s s' : PS) (v : PV) (wb : Nat → Option Box) : Prop where
  eq : s' = upd dst v wb s
  again : ∀ u, (∀ t ∈ opReads k, u.t t = s.t t) → AgB k dst s u → wpK C ⟨dst, k, none⟩ u (· = upd dst v wb u)
  wb : Wb k dst s wb
  live : ∀ e ver, ref k s = some (e, ver) → cls k ≠ .pure → (s.bx e).ver = ver ∧ (s.bx e).st ≠ .dead

theorem kind_var {b b' : Box} {v : Nat} {cs : List CV} (h : kindEq b b') (hb : b = ⟨v, .var cs⟩) : ∃ cs', b' = ⟨v, .var cs'⟩ := by
  subst hb
  obtain ⟨w, st⟩ := b'
  obtain ⟨h1, h2⟩ := h
  simp only at h1
  subst h1
  cases st <;> first | exact ⟨_, rfl⟩ | (simp at h2)
theorem kind_sl {b b' : Box} {v z : Nat} {es : List (List CV)} (h : kindEq b b') (hb : b = ⟨v, .sl z es⟩) : ∃ es', b' = ⟨v, .sl z es'⟩ := by
  subst hb
  obtain ⟨w, st⟩ := b'
  obtain ⟨h1, h2⟩ := h
  simp only at h1
  subst h1
  cases st <;> first | (simp only at h2; subst h2; exact ⟨_, rfl⟩) | (simp at h2)

section
variable {C : CallP} {dst : Option Nat} {s s' : PS}

theorem wpK_step {k : PK} {u : PS} {t : PS} (hc : ∀ m f l, k ≠ .call m f l) (h : pstep dst u k = some t) : wpK C ⟨dst, k, none⟩ u (· = t) := by
  cases k
  case call m f l => exact absurd rfl (hc _ _ _)
  all_goals (simp only [wpK, h])

theorem Wb.none {k : PK} : Wb k dst s nob := fun i b h => by cases h

/-- a step that gives its slot a value and turns no box -/
theorem LocK.put {k : PK} {v : PV} (hc : ∀ m f l, k ≠ .call m f l) (he : s' = s.putO dst v) (ha : ∀ u, (∀ t ∈ opReads k, u.t t = s.t t) → AgB k dst s u → pstep dst u k = some (u.putO dst v))
    (hl : ∀ e ver, ref k s = some (e, ver) → cls k ≠ .pure → (s.bx e).ver = ver ∧ (s.bx e).st ≠ .dead) : LocK C dst k s s' v nob :=
  ⟨by rw [he, upd_putO], fun u hu hb => by rw [← upd_putO]; exact wpK_step hc (ha u hu hb), Wb.none, hl⟩

theorem loc_pure {k : PK} (hk : cls k = .pure) (hn : isNew k = false) (hc : ∀ m f l, k ≠ .call m f l) (hs : pstep dst s k = some s') : ∃ v wb, LocK C dst k s s' v wb := by
  obtain ⟨v, he, _⟩ := locPure hk hn hc s s s' (fun _ _ => rfl) hs
  refine ⟨v, nob, LocK.put hc he (fun u hu _ => ?_) fun e ver _ h => absurd hk h⟩
  obtain ⟨v', he', hu'⟩ := locPure hk hn hc s u s' hu hs
  cases dst with
  | none => exact hu'
  | some d =>
    have : v = v' := by
      have h1 := congrArg (fun p : PS => p.t d) (he.symm.trans he')
      simpa [PS.putO, PS.put] using h1
    rw [this]; exact hu'

theorem loc_load {f : Bool} {n : Nat} {x : PO} {av : List Nat} (hs : pstep dst s (.load f n x av) = some s') : ∃ v wb, LocK C dst (.load f n x av) s s' v wb := by
  have hev : ∀ u : PS, (∀ t ∈ opReads (.load f n x av), u.t t = s.t t) → u.ev x = s.ev x := fun u hu => ev_agree hu x (by simp [opds])
  simp only [pstep] at hs
  split at hs
  · rename_i cs hx
    split at hs
    · rename_i hc
      refine ⟨_, nob, LocK.put (by intros; simp) (Option.some.inj hs).symm (fun u hu _ => by simp only [pstep, hev u hu, hx]; rw [if_pos hc]) fun e ver hr _ => ?_⟩
      simp [ref, key, hx, refOf] at hr
    · cases hs
  · rename_i d ver off hx
    have hr : ref (.load f n x av) s = some (d, ver) := by simp [ref, key, hx, refOf]
    split at hs
    · cases hs
    · rename_i hav
      split at hs
      · rename_i v cs hb
        split at hs
        · rename_i hc
          refine ⟨_, nob, LocK.put (by intros; simp) (Option.some.inj hs).symm (fun u hu hab => ?_) fun e ver' hr' _ => ?_⟩
          · have := (hab.1 d ver hr).2 (by simp [cls])
            simp only [pstep, hev u hu, hx, if_neg hav, this, hb]; rw [if_pos hc]
          · rw [hr] at hr'; cases hr'; rw [hb]; exact ⟨hc.1, by simp⟩
        · cases hs
      · rename_i v cs hb
        split at hs
        · rename_i hc
          refine ⟨_, nob, LocK.put (by intros; simp) (Option.some.inj hs).symm (fun u hu hab => ?_) fun e ver' hr' _ => ?_⟩
          · have := (hab.1 d ver hr).2 (by simp [cls])
            simp only [pstep, hev u hu, hx, if_neg hav, this, hb]; rw [if_pos hc]
          · rw [hr] at hr'; cases hr'; rw [hb]; exact ⟨hc.1, by simp⟩
        · cases hs
      · cases hs
  · rename_i d ver i off hx
    have hr : ref (.load f n x av) s = some (d, ver) := by simp [ref, key, hx, refOf]
    split at hs
    · cases hs
    · rename_i hav
      split at hs
      · rename_i v sz es hb
        split at hs
        · rename_i e he
          split at hs
          · rename_i hc
            refine ⟨_, nob, LocK.put (by intros; simp) (Option.some.inj hs).symm (fun u hu hab => ?_) fun e ver' hr' _ => ?_⟩
            · have := (hab.1 d ver hr).2 (by simp [cls])
              simp only [pstep, hev u hu, hx, if_neg hav, this, hb, he]; rw [if_pos hc]
            · rw [hr] at hr'; cases hr'; rw [hb]; exact ⟨hc.1, by simp⟩
          · cases hs
        · cases hs
      · cases hs
  · cases hs

theorem loc_store {n : Nat} {x y : PO} {av : List Nat} (hd : dst = none) (hs : pstep dst s (.store n x y av) = some s') : ∃ v wb, LocK C dst (.store n x y av) s s' v wb := by
  subst hd
  have hev : ∀ u : PS, (∀ t ∈ opReads (.store n x y av), u.t t = s.t t) → u.ev x = s.ev x ∧ u.evc y = s.evc y := fun u hu => ⟨ev_agree hu x (by simp [opds]), evc_agree (ev_agree hu y (by simp [opds]))⟩
  simp only [pstep] at hs
  split at hs
  · rename_i d ver off v hx hy
    have hr : ref (.store n x y av) s = some (d, ver) := by simp [ref, key, hx, refOf]
    split at hs
    · cases hs
    · rename_i hav
      split at hs
      · rename_i q cs hb
        split at hs
        · rename_i hc
          have he := (Option.some.inj hs).symm
          rw [upd_boxn] at he
          refine ⟨.undef, oneb d _, he, fun u hu hab => ?_, fun i b hi => ?_, fun e ver' hr' _ => ?_⟩
          · have := (hab.1 d ver hr).2 (by simp [cls])
            refine wpK_step (by intros; simp) ?_
            simp only [pstep, (hev u hu).1, (hev u hu).2, hx, hy, if_neg hav, this, hb]; rw [if_pos hc, upd_boxn]
          · simp only [oneb] at hi
            split at hi
            · rename_i e; subst e; cases hi; exact .inl ⟨rfl, ⟨_, hr⟩, by rw [hb]; exact ⟨rfl, by simp⟩⟩
            · cases hi
          · rw [hr] at hr'; cases hr'; rw [hb]; exact ⟨hc.1, by simp⟩
        · cases hs
      · cases hs
  · rename_i d ver k off v hx hy
    have hr : ref (.store n x y av) s = some (d, ver) := by simp [ref, key, hx, refOf]
    split at hs
    · cases hs
    · rename_i hav
      split at hs
      · rename_i q sz es hb
        split at hs
        · rename_i e0 he0
          split at hs
          · rename_i hc
            have he := (Option.some.inj hs).symm
            rw [upd_boxn] at he
            refine ⟨.undef, oneb d _, he, fun u hu hab => ?_, fun i b hi => ?_, fun e ver' hr' _ => ?_⟩
            · have := (hab.1 d ver hr).2 (by simp [cls])
              refine wpK_step (by intros; simp) ?_
              simp only [pstep, (hev u hu).1, (hev u hu).2, hx, hy, if_neg hav, this, hb, he0]; rw [if_pos hc, upd_boxn]
            · simp only [oneb] at hi
              split at hi
              · rename_i e; subst e; cases hi; exact .inl ⟨rfl, ⟨_, hr⟩, by rw [hb]; exact ⟨rfl, by simp⟩⟩
              · cases hi
            · rw [hr] at hr'; cases hr'; rw [hb]; exact ⟨hc.1, by simp⟩
          · cases hs
        · cases hs
      · cases hs
  · cases hs
end
end Go.Pl

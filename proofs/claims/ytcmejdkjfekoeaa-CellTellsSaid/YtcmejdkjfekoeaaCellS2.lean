/- Part of the proof of CellMean, CellOrder, CellJoins, CellLines, CellTells: lemmas. -/
import Derived.Test.YtcmejdkjfekoeaaCellS1
import Derived.Laws.Cells
import Derived.Laws.CopyRow
import Derived.Laws.Entries
import Derived.Deep.MidRow
import Derived.AtR
import Derived.Laws.Tables
import Derived.Laws.Build
import Derived.ChangeKeysEq
import Derived.WideLaws
set_option linter.unusedVariables false
set_option linter.unusedSimpArgs false
/-
  WHAT A PLAIN OPERATION READS AND WRITES, GOES ON. My own work.
-/
namespace Go.Pl
set_option linter.unusedVariables false
set_option linter.unusedSimpArgs false
section
variable {C : CallP} {dst : Option Nat} {s s' : PS}
theorem loc_fad {o : Nat} {x : PO} (hs : pstep dst s (.fad o x) = some s') : ∃ v wb, LocK C dst (.fad o x) s s' v wb := by
  have hev : ∀ u : PS, (∀ t ∈ opReads (.fad o x), u.t t = s.t t) → u.ev x = s.ev x := fun u hu => ev_agree hu x (by simp [opds])
  simp only [pstep] at hs
  split at hs
  · rename_i cs hx
    split at hs
    · rename_i hc
      refine ⟨_, nob, LocK.put (by intros; simp) (Option.some.inj hs).symm (fun u hu _ => by simp only [pstep, hev u hu, hx]; rw [if_pos hc]) fun e ver hr _ => ?_⟩
      simp [ref, key, hx, refOf] at hr
    · cases hs
  · rename_i d ver off hx
    have hr : ref (.fad o x) s = some (d, ver) := by simp [ref, key, hx, refOf]
    split at hs
    · rename_i q cs hb
      split at hs
      · rename_i hc
        refine ⟨_, nob, LocK.put (by intros; simp) (Option.some.inj hs).symm (fun u hu hab => ?_) fun e ver' hr' _ => ?_⟩
        · obtain ⟨cs', hb'⟩ := kind_var ((hab.1 d ver hr).1 rfl) hb
          simp only [pstep, hev u hu, hx, hb']; rw [if_pos hc]
        · rw [hr] at hr'; cases hr'; rw [hb]; exact ⟨hc, by simp⟩
      · cases hs
    · cases hs
  · rename_i d ver i off hx
    have hr : ref (.fad o x) s = some (d, ver) := by simp [ref, key, hx, refOf]
    split at hs
    · rename_i q sz es hb
      split at hs
      · rename_i hc
        refine ⟨_, nob, LocK.put (by intros; simp) (Option.some.inj hs).symm (fun u hu hab => ?_) fun e ver' hr' _ => ?_⟩
        · obtain ⟨cs', hb'⟩ := kind_sl ((hab.1 d ver hr).1 rfl) hb
          simp only [pstep, hev u hu, hx, hb']; rw [if_pos hc]
        · rw [hr] at hr'; cases hr'; rw [hb]; exact ⟨hc, by simp⟩
      · cases hs
    · cases hs
  · cases hs
theorem loc_nilc {x : PO} (hs : pstep dst s (.nilc x) = some s') : ∃ v wb, LocK C dst (.nilc x) s s' v wb := by
  have hev : ∀ u : PS, (∀ t ∈ opReads (.nilc x), u.t t = s.t t) → u.ev x = s.ev x := fun u hu => ev_agree hu x (by simp [opds])
  simp only [pstep] at hs
  split at hs
  · rename_i d ver off hx
    have hr : ref (.nilc x) s = some (d, ver) := by simp [ref, key, hx, refOf]
    split at hs
    · rename_i q cs hb
      split at hs
      · rename_i hc
        refine ⟨_, nob, LocK.put (by intros; simp) (Option.some.inj hs).symm (fun u hu hab => ?_) fun e ver' hr' _ => ?_⟩
        · obtain ⟨cs', hb'⟩ := kind_var ((hab.1 d ver hr).1 rfl) hb
          simp only [pstep, hev u hu, hx, hb']; rw [if_pos hc]
        · rw [hr] at hr'; cases hr'; rw [hb]; exact ⟨hc, by simp⟩
      · cases hs
    · cases hs
  · rename_i cs hx
    refine ⟨_, nob, LocK.put (by intros; simp) (Option.some.inj hs).symm (fun u hu _ => by simp only [pstep, hev u hu, hx]) fun e ver hr _ => ?_⟩
    simp [ref, key, hx, refOf] at hr
  · rename_i d ver i off hx
    have hr : ref (.nilc x) s = some (d, ver) := by simp [ref, key, hx, refOf]
    split at hs
    · rename_i q sz es hb
      split at hs
      · rename_i hc
        refine ⟨_, nob, LocK.put (by intros; simp) (Option.some.inj hs).symm (fun u hu hab => ?_) fun e ver' hr' _ => ?_⟩
        · obtain ⟨cs', hb'⟩ := kind_sl ((hab.1 d ver hr).1 rfl) hb
          simp only [pstep, hev u hu, hx, hb']; rw [if_pos hc]
        · rw [hr] at hr'; cases hr'; rw [hb]; exact ⟨hc, by simp⟩
      · cases hs
    · cases hs
  · cases hs
theorem loc_iaA {len sz : Nat} {x y : PO} (hs : pstep dst s (.iaA len sz x y) = some s') : ∃ v wb, LocK C dst (.iaA len sz x y) s s' v wb := by
  have hev : ∀ u : PS, (∀ t ∈ opReads (.iaA len sz x y), u.t t = s.t t) → u.ev x = s.ev x ∧ u.evc y = s.evc y := fun u hu => ⟨ev_agree hu x (by simp [opds]), evc_agree (ev_agree hu y (by simp [opds]))⟩
  simp only [pstep] at hs
  split at hs
  · rename_i k n hy
    split at hs
    · rename_i hn
      split at hs
      · rename_i cs hx
        split at hs
        · rename_i hc
          refine ⟨_, nob, LocK.put (by intros; simp) (Option.some.inj hs).symm (fun u hu _ => by simp only [pstep, (hev u hu).1, (hev u hu).2, hx, hy]; rw [if_pos hn, if_pos hc]) fun e ver hr _ => ?_⟩
          simp [ref, key, hx, refOf] at hr
        · cases hs
      · rename_i d ver off hx
        have hr : ref (.iaA len sz x y) s = some (d, ver) := by simp [ref, key, hx, refOf]
        split at hs
        · rename_i q cs hb
          split at hs
          · rename_i hc
            refine ⟨_, nob, LocK.put (by intros; simp) (Option.some.inj hs).symm (fun u hu hab => ?_) fun e ver' hr' _ => ?_⟩
            · obtain ⟨cs', hb'⟩ := kind_var ((hab.1 d ver hr).1 rfl) hb
              simp only [pstep, (hev u hu).1, (hev u hu).2, hx, hy, hb']; rw [if_pos hn, if_pos hc]
            · rw [hr] at hr'; cases hr'; rw [hb]; exact ⟨hc, by simp⟩
          · cases hs
        · cases hs
      · rename_i d ver i off hx
        have hr : ref (.iaA len sz x y) s = some (d, ver) := by simp [ref, key, hx, refOf]
        split at hs
        · rename_i q sz' es hb
          split at hs
          · rename_i hc
            refine ⟨_, nob, LocK.put (by intros; simp) (Option.some.inj hs).symm (fun u hu hab => ?_) fun e ver' hr' _ => ?_⟩
            · obtain ⟨cs', hb'⟩ := kind_sl ((hab.1 d ver hr).1 rfl) hb
              simp only [pstep, (hev u hu).1, (hev u hu).2, hx, hy, hb']; rw [if_pos hn, if_pos hc]
            · rw [hr] at hr'; cases hr'; rw [hb]; exact ⟨hc, by simp⟩
          · cases hs
        · cases hs
      · cases hs
    · cases hs
  · cases hs
theorem loc_iaS {sz : Nat} {x y : PO} (hs : pstep dst s (.iaS sz x y) = some s') : ∃ v wb, LocK C dst (.iaS sz x y) s s' v wb := by
  have hev : ∀ u : PS, (∀ t ∈ opReads (.iaS sz x y), u.t t = s.t t) → u.ev x = s.ev x ∧ u.evc y = s.evc y := fun u hu => ⟨ev_agree hu x (by simp [opds]), evc_agree (ev_agree hu y (by simp [opds]))⟩
  simp only [pstep] at hs
  split at hs
  · rename_i k n hy
    split at hs
    · rename_i es hx
      split at hs
      · rename_i hn
        split at hs
        · rename_i hc
          refine ⟨_, nob, LocK.put (by intros; simp) (Option.some.inj hs).symm (fun u hu _ => by simp only [pstep, (hev u hu).1, (hev u hu).2, hx, hy]; rw [if_pos hn, if_pos hc]) fun e ver hr _ => ?_⟩
          simp [ref, key, hx, refOf] at hr
        · cases hs
      · cases hs
    · rename_i d ver off len hx
      have hr : ref (.iaS sz x y) s = some (d, ver) := by simp [ref, key, hx, refOf]
      split at hs
      · rename_i q sz' es hb
        split at hs
        · rename_i hc
          refine ⟨_, nob, LocK.put (by intros; simp) (Option.some.inj hs).symm (fun u hu hab => ?_) fun e ver' hr' _ => ?_⟩
          · obtain ⟨cs', hb'⟩ := kind_sl ((hab.1 d ver hr).1 rfl) hb
            simp only [pstep, (hev u hu).1, (hev u hu).2, hx, hy, hb']; rw [if_pos hc]
          · rw [hr] at hr'; cases hr'; rw [hb]; exact ⟨hc.1, by simp⟩
        · cases hs
      · cases hs
    · cases hs
  · cases hs
theorem loc_len {x : PO} (hs : pstep dst s (.len x) = some s') : ∃ v wb, LocK C dst (.len x) s s' v wb := by
  have hev : ∀ u : PS, (∀ t ∈ opReads (.len x), u.t t = s.t t) → u.ev x = s.ev x := fun u hu => ev_agree hu x (by simp [opds])
  simp only [pstep] at hs
  split at hs
  · rename_i es hx
    refine ⟨_, nob, LocK.put (by intros; simp) (Option.some.inj hs).symm (fun u hu _ => by simp only [pstep, hev u hu, hx]) fun e ver hr _ => ?_⟩
    simp [ref, key, hx, refOf] at hr
  · rename_i d ver off len hx
    have hr : ref (.len x) s = some (d, ver) := by simp [ref, key, hx, refOf]
    split at hs
    · rename_i q sz' es hb
      split at hs
      · rename_i hc
        refine ⟨_, nob, LocK.put (by intros; simp) (Option.some.inj hs).symm (fun u hu hab => ?_) fun e ver' hr' _ => ?_⟩
        · obtain ⟨cs', hb'⟩ := kind_sl ((hab.1 d ver hr).1 rfl) hb
          simp only [pstep, hev u hu, hx, hb']; rw [if_pos hc]
        · rw [hr] at hr'; cases hr'; rw [hb]; exact ⟨hc, by simp⟩
      · cases hs
    · cases hs
  · cases hs
/-- a new box for the slot 'd' -/
theorem loc_new {k : PK} {d : Nat} {b : Nat → Box} {pv : Nat → PV} (hver : ∀ v, v < (b v).ver) (hdst : dst = some d) (hk : isNew k = true) (hcl : cls k = .pure) (hc : ∀ m f l, k ≠ .call m f l)
    (hs : s' = (s.box d (b (s.bx d).ver)).put d (pv (s.bx d).ver)) (ha : ∀ u : PS, (∀ t ∈ opReads k, u.t t = s.t t) → pstep dst u k = some ((u.box d (b (u.bx d).ver)).put d (pv (u.bx d).ver))) : ∃ v wb, LocK C dst k s s' v wb := by
  subst hdst
  rw [upd_box] at hs
  refine ⟨_, _, hs, fun u hu hab => ?_, fun i b' hi => ?_, fun e ver hr h => absurd hcl h⟩
  · have := hab.2 hk d rfl
    refine wpK_step hc ?_
    rw [ha u hu, upd_box, this]
  · simp only [oneb] at hi
    split at hi
    · rename_i e; subst e; cases hi; exact .inr (.inr ⟨hk, rfl, hver _⟩)
    · cases hi
theorem loc_app {sz : Nat} {x y : PO} {own : Bool} (hs : pstep dst s (.app sz x y own) = some s') : ∃ v wb, LocK C dst (.app sz x y own) s s' v wb := by
  have hev : ∀ u : PS, (∀ t ∈ opReads (.app sz x y own), u.t t = s.t t) → u.ev x = s.ev x ∧ u.evc y = s.evc y := fun u hu => ⟨ev_agree hu x (by simp [opds]), evc_agree (ev_agree hu y (by simp [opds]))⟩
  simp only [pstep] at hs
  split at hs
  · rename_i e d ver off len ys hx hy
    have hr : ref (.app sz x y own) s = some (d, ver) := by simp [ref, key, hx, refOf]
    split at hs
    · rename_i q sz' es hb
      split at hs
      · rename_i hc
        have hlive : ∀ e ver', ref (.app sz x y own) s = some (e, ver') → cls (.app sz x y own) ≠ .pure → (s.bx e).ver = ver' ∧ (s.bx e).st ≠ .dead := by
          intro e ver' hr' _
          rw [hr] at hr'; cases hr'; rw [hb]; exact ⟨hc.1, by simp⟩
        split at hs
        · rename_i ho
          subst ho
          have he := (Option.some.inj hs).symm
          have e2 : ∀ u : PS, u.bx e = s.bx e → ((u.box d ⟨q + 1, .dead⟩).box e ⟨(u.bx e).ver + 1, .sl sz (es ++ ys)⟩).put e (.osl e ((u.bx e).ver + 1) 0 (es ++ ys).length) =
              upd (some e) (.osl e ((s.bx e).ver + 1) 0 (es ++ ys).length) (fun i => if i = e then some ⟨(s.bx e).ver + 1, .sl sz (es ++ ys)⟩ else if i = d then some ⟨q + 1, .dead⟩ else none) u := by
            intro u hu
            rw [hu]
            simp only [PS.put, PS.box, upd, PS.mk.injEq]
            refine ⟨by funext i; simp, ?_⟩
            funext i
            by_cases h1 : i = e
            · simp [h1]
            · by_cases h2 : i = d
              · subst h2; simp [h1]
              · simp [h1, h2]
          rw [e2 s rfl] at he
          refine ⟨_, _, he, fun u hu hab => ?_, fun i b hi => ?_, hlive⟩
          · have h1 := (hab.1 d ver hr).2 (by simp [cls])
            have h2 := hab.2 rfl e rfl
            refine wpK_step (by intros; simp) ?_
            simp only [pstep, (hev u hu).1, (hev u hu).2, hx, hy, h1, hb]; rw [if_pos hc, if_pos trivial, e2 u h2]
          · split at hi
            · rename_i e'; subst e'; cases hi; exact .inr (.inr ⟨rfl, rfl, Nat.lt_succ_self _⟩)
            · split at hi
              · rename_i e'; subst e'; exact .inr (.inl ⟨rfl, _, hr⟩)
              · cases hi
        · rename_i ho
          have ho : own = false := by simpa using ho
          subst ho
          have he := (Option.some.inj hs).symm
          rw [upd_box] at he
          refine ⟨_, _, he, fun u hu hab => ?_, fun i b hi => ?_, hlive⟩
          · have h1 := (hab.1 d ver hr).2 (by simp [cls])
            refine wpK_step (by intros; simp) ?_
            simp only [pstep, (hev u hu).1, (hev u hu).2, hx, hy, h1, hb]; rw [if_pos hc, ← upd_box]; simp
          · simp only [oneb] at hi
            split at hi
            · rename_i e'; subst e'; exact .inr (.inl ⟨rfl, _, hr⟩)
            · cases hi
      · cases hs
    · cases hs
  · cases hs
theorem loc_step {k : PK} (hc : ∀ m f l, k ≠ .call m f l) (hst : (∃ n x y av, k = .store n x y av) → dst = none) (hs : pstep dst s k = some s') : ∃ v wb, LocK C dst k s s' v wb := by
  cases k
  case load f n x av => exact loc_load hs
  case store n x y av => exact loc_store (hst ⟨_, _, _, _, rfl⟩) hs
  case fad o x => exact loc_fad hs
  case nilc x => exact loc_nilc hs
  case iaA len sz x y => exact loc_iaA hs
  case iaS sz x y => exact loc_iaS hs
  case len x => exact loc_len hs
  case app sz x y own => exact loc_app hs
  case own0 sz =>
    cases hd : dst with
    | none => simp [pstep, hd] at hs
    | some d =>
      subst hd
      simp only [pstep] at hs
      exact loc_new (b := fun v => ⟨v + 1, .sl sz []⟩) (pv := fun v => .osl d (v + 1) 0 0) (fun v => Nat.lt_succ_self v) rfl rfl rfl (by intros; simp) (Option.some.inj hs).symm (fun u _ => by simp only [pstep])
  case alloc z =>
    cases hd : dst with
    | none => simp [pstep, hd] at hs
    | some d =>
      subst hd
      simp only [pstep] at hs
      exact loc_new (b := fun v => ⟨v + 1, .var z⟩) (pv := fun v => .ptr d (v + 1) 0) (fun v => Nat.lt_succ_self v) rfl rfl rfl (by intros; simp) (Option.some.inj hs).symm (fun u _ => by simp only [pstep])
  case box n x =>
    simp only [pstep] at hs
    split at hs
    · rename_i d v hx
      split at hs
      · rename_i hn
        refine loc_new (b := fun q => ⟨q + 1, .var v.cells⟩) (pv := fun q => .ptr d (q + 1) 0) (fun v => Nat.lt_succ_self v) rfl rfl rfl (by intros; simp) (Option.some.inj hs).symm (fun u hu => ?_)
        simp only [pstep, evc_agree (ev_agree hu x (by simp [opds])), hx]; rw [if_pos hn]
      · cases hs
    · cases hs
  case bsl sz len zc ps own =>
    cases own with
    | false => exact loc_pure rfl rfl hc hs
    | true =>
      simp only [pstep] at hs
      split at hs
      · rename_i l hl
        split at hs
        · rename_i hb; cases hb
        · rename_i es d hf _
          refine loc_new (b := fun q => ⟨q + 1, .sl sz es⟩) (pv := fun q => .osl d (q + 1) 0 es.length) (fun v => Nat.lt_succ_self v) rfl rfl rfl (by intros; simp) (Option.some.inj hs).symm (fun u hu => ?_)
          have hp := partsS_agree (s := s) (u := u) (l := ps) (ev_agree hu)
          simp only [pstep, hp, hl, hf]
        · cases hs
      · cases hs
  case call m f l => exact absurd rfl (hc _ _ _)
  all_goals exact loc_pure rfl rfl hc hs
theorem loc_call {m : Bool} {f : FuncId} {l : List PO} {K : PS → Prop} (h : wpCall C m f l dst s K) : ∃ s', (∃ v wb, LocK C dst (.call m f l) s s' v wb) ∧ K s' := by
  unfold wpCall at h
  split at h
  · split at h
    · rename_i cs hcs
      obtain ⟨r, hC, hK⟩ := h
      refine ⟨_, ⟨.c r, nob, by rw [upd_putO], fun u hu _ => ?_, Wb.none, fun e ver hr h => absurd rfl h⟩, hK⟩
      have := evcs_agree (l := l) (s := s) (u := u) (ev_agree hu)
      simp only [wpK, wpCall, this, hcs]
      exact ⟨r, hC, by rw [upd_putO]⟩
    · exact h.elim
  · rename_i x l
    have hev : ∀ u : PS, (∀ t ∈ opReads (.call true f (x :: l)), u.t t = s.t t) → u.ev x = s.ev x ∧ evcs u l = evcs s l := fun u hu => ⟨ev_agree hu x (by simp [opds]), evcs_agree fun y hy => ev_agree hu y (by simp [opds, hy])⟩
    split at h
    · rename_i d ver off len cs hx hcs
      have hr : ref (.call true f (x :: l)) s = some (d, ver) := by simp [ref, key, hx, refOf]
      split at h
      · rename_i v sz es hb
        obtain ⟨hcond, r, hrd, hC, hK⟩ := h
        have hlive : ∀ e ver', ref (.call true f (x :: l)) s = some (e, ver') → cls (.call true f (x :: l)) ≠ .pure → (s.bx e).ver = ver' ∧ (s.bx e).st ≠ .dead := by
          intro e ver' hr' _
          rw [hr] at hr'; cases hr'; rw [hb]; exact ⟨hcond.1, by simp⟩
        have again : ∀ u : PS, (∀ t ∈ opReads (.call true f (x :: l)), u.t t = s.t t) → AgB (.call true f (x :: l)) dst s u → wpK C ⟨dst, .call true f (x :: l), none⟩ u (· = (u.box d ⟨v + 1, .dead⟩).putR dst r) := by
          intro u hu hab
          have h1 := (hab.1 d ver hr).2 (by simp [cls])
          simp only [wpK, wpCall, (hev u hu).1, (hev u hu).2, hx, hcs, h1, hb]
          exact ⟨hcond, r, hrd, hC, rfl⟩
        cases r with
        | c r =>
          refine ⟨_, ⟨.c r, oneb d ⟨v + 1, .dead⟩, ?_, fun u hu hab => ?_, fun i b hi => ?_, hlive⟩, hK⟩
          · cases dst with
            | none => simp only [PS.putR, PS.putO]; rw [upd_boxn]; simp [upd]
            | some e => simp only [PS.putR, PS.putO]; rw [upd_box]
          · have := again u hu hab
            have e : (u.box d ⟨v + 1, .dead⟩).putR dst (.c r) = upd dst (.c r) (oneb d ⟨v + 1, .dead⟩) u := by
              cases dst with
              | none => simp only [PS.putR, PS.putO]; rw [upd_boxn]; simp [upd]
              | some e => simp only [PS.putR, PS.putO]; rw [upd_box]
            rw [e] at this
            exact this
          · simp only [oneb] at hi
            split at hi
            · rename_i e'; subst e'; exact .inr (.inl ⟨rfl, _, hr⟩)
            · cases hi
        | own sz' zs =>
          have hsome := hrd _ _ rfl
          cases hd : dst with
          | none => rw [hd] at hsome; cases hsome
          | some e =>
            subst hd
            have e2 : ∀ u : PS, u.bx e = s.bx e → (u.box d ⟨v + 1, .dead⟩).putR (some e) (.own sz' zs) =
                upd (some e) (.osl e (((s.box d ⟨v + 1, .dead⟩).bx e).ver + 1) 0 zs.length) (fun i => if i = e then some ⟨((s.box d ⟨v + 1, .dead⟩).bx e).ver + 1, .sl sz' zs⟩ else if i = d then some ⟨v + 1, .dead⟩ else none) u := by
              intro u hu
              have hh : ((u.box d ⟨v + 1, .dead⟩).bx e) = ((s.box d ⟨v + 1, .dead⟩).bx e) := by simp only [PS.box, hu]
              simp only [PS.putR, hh]
              simp only [PS.put, PS.box, upd, PS.mk.injEq]
              refine ⟨by funext i; simp, ?_⟩
              funext i
              by_cases h1 : i = e
              · simp [h1]
              · rw [if_neg h1, if_neg h1]
                by_cases h2 : i = d
                · rw [if_pos h2, if_pos h2]; rfl
                · rw [if_neg h2, if_neg h2]; rfl
            refine ⟨_, ⟨_, _, e2 s rfl, fun u hu hab => ?_, fun i b hi => ?_, hlive⟩, hK⟩
            · have := again u hu hab
              rw [e2 u (hab.2 rfl e rfl)] at this
              exact this
            · split at hi
              · rename_i e'; subst e'; cases hi; exact .inr (.inr ⟨rfl, rfl, by simp only [PS.box]; split <;> simp_all <;> omega⟩)
              · split at hi
                · rename_i e'; subst e'; exact .inr (.inl ⟨rfl, _, hr⟩)
                · cases hi
      · exact h.elim
    · rename_i d ver off cs hx hcs
      have hr : ref (.call true f (x :: l)) s = some (d, ver) := by simp [ref, key, hx, refOf]
      split at h
      · rename_i v c0 hb
        obtain ⟨hcond, r, c1, hC, hK⟩ := h
        have e2 : ∀ u : PS, (u.box d ⟨v, .var c1⟩).putO dst (.c r) = upd dst (.c r) (oneb d ⟨v, .var c1⟩) u := by
          intro u
          cases dst with
          | none => simp only [PS.putO]; rw [upd_boxn]; simp [upd]
          | some e => simp only [PS.putO]; rw [upd_box]
        refine ⟨_, ⟨.c r, oneb d ⟨v, .var c1⟩, e2 s, fun u hu hab => ?_, fun i b hi => ?_, fun e ver' hr' _ => ?_⟩, hK⟩
        · have h1 := (hab.1 d ver hr).2 (by simp [cls])
          simp only [wpK, wpCall, (hev u hu).1, (hev u hu).2, hx, hcs, h1, hb]
          exact ⟨hcond, r, c1, hC, by rw [e2 u]⟩
        · simp only [oneb] at hi
          split at hi
          · rename_i e'; subst e'; exact .inr (.inl ⟨rfl, _, hr⟩)
          · cases hi
        · rw [hr] at hr'; cases hr'; rw [hb]; exact ⟨hcond.1, by simp⟩
      · exact h.elim
    · exact h.elim
  · exact h.elim
end
end Go.Pl
/-
  WHAT A PLAIN STATE SAYS OF A FRAME AND A WORLD: closed values read in memory that nobody writes; boxes are blocks of the frame's own. My own work.
-/
namespace Go.Pl
def CV.one : CV → Bool
  | .agg _ | .tup _ => false
  | _ => true
/-- 'v' reads as 'c' in memory outside of 'N' (what some frame may still write). -/
inductive V (w : World) (N : Nat → Prop) : Value → CV → Prop where
  | int (k : IntKind) (n : Int) : V w N (.int k n) (.int k n)
  | bool (b : Bool) : V w N (.bool b) (.bool b)
  | str (s : ByteArray) : V w N (.string s) (.str s)
  | nilp : V w N (.pointer none) .nilp
  | nili : V w N .nilIface .nili
  | nilf : V w N .nilFunc .nilf
  | iface (t : TypeId) (v : Value) (c : CV) (h : V w N v c) : V w N (.iface t v) (.iface t c)
  | agg (vs : Array Value) (cs : List CV) (hl : vs.size = cs.length) (h1 : ∀ c ∈ cs, c.one = true)
      (h : ∀ (i : Nat) (h1 : i < vs.size) (h2 : i < cs.length), V w N vs[i] cs[i]) : V w N (.agg vs) (.agg cs)
  | tup (vs : Array Value) (cs : List CV) (hl : vs.size = cs.length)
      (h : ∀ (i : Nat) (h1 : i < vs.size) (h2 : i < cs.length), V w N vs[i] cs[i]) : V w N (.tuple vs) (.tup cs)
  | fn (f : Fn) (vs : Array Value) (cs : List CV) (hl : vs.size = cs.length)
      (h : ∀ (i : Nat) (h1 : i < vs.size) (h2 : i < cs.length), V w N vs[i] cs[i]) : V w N (.func f #[] vs) (.fn f cs)
  | clo (f : FuncId) (b : Nat) (v : Value) (c : CV) (hb : b < w.heap.size) (hN : ¬ N b) (hr : w.cell? ⟨b, 0, none⟩ = some v) (h : V w N v c) : V w N (.func (.func f) #[] #[.pointer (some ⟨b, 0, none⟩)]) (.clo f c)
  | nil : V w N (.slice none 0 0) (.sl [])
  | emp (a : Addr) (cap : Nat) : V w N (.slice (some a) 0 cap) (.sl [])
  | sl (b off cap sz : Nat) (es : List (List CV)) (c : Nat → Nat → Value) (hb : b < w.heap.size) (hN : ¬ N b) (hz : ∀ e ∈ es, e.length = sz) (hc : es.length ≤ cap)
      (h1 : ∀ e ∈ es, ∀ c ∈ e, c.one = true)
      (hr : ∀ (i j : Nat) (hi : i < es.length) (_ : j < es[i].length), w.cell? ⟨b, off + (i * sz + j), none⟩ = some (c i j))
      (h : ∀ (i j : Nat) (hi : i < es.length) (hj : j < es[i].length), V w N (c i j) es[i][j]) : V w N (.slice (some ⟨b, off, none⟩) es.length cap) (.sl es)
theorem V.oneCell {w : World} {N : Nat → Prop} {v : Value} {c : CV} (h : V w N v c) (h1 : c.one = true) : v.oneCell' = true := by
  cases h <;> first | rfl | (simp [CV.one] at h1)
structure Ext (w : World) (N : Nat → Prop) (w' : World) (N' : Nat → Prop) : Prop where
  size : w.heap.size ≤ w'.heap.size
  keep : ∀ b, b < w.heap.size → ¬ N b → w'.heap[b]? = w.heap[b]?
  less : ∀ b, b < w.heap.size → N' b → N b
theorem Ext.refl (w : World) (N : Nat → Prop) : Ext w N w N := ⟨Nat.le_refl _, fun _ _ _ => rfl, fun _ _ h => h⟩
theorem Ext.of_less {w : World} {N N' : Nat → Prop} (h : ∀ b, N' b → N b) : Ext w N w N' := ⟨Nat.le_refl _, fun _ _ _ => rfl, fun b _ => h b⟩
theorem Ext.cell {w w' : World} {N N' : Nat → Prop} (e : Ext w N w' N') {b o : Nat} (hb : b < w.heap.size) (hN : ¬ N b) : w'.cell? ⟨b, o, none⟩ = w.cell? ⟨b, o, none⟩ := by
  simp only [World.cell?, e.keep b hb hN]
theorem V.ext {w w' : World} {N N' : Nat → Prop} (e : Ext w N w' N') {v : Value} {c : CV} (h : V w N v c) : V w' N' v c := by
  induction h with
  | int k n => exact .int k n
  | bool b => exact .bool b
  | str s => exact .str s
  | nilp => exact .nilp
  | nili => exact .nili
  | nilf => exact .nilf
  | iface t v c _ ih => exact .iface t v c ih
  | agg vs cs hl h1 _ ih => exact .agg vs cs hl h1 ih
  | tup vs cs hl _ ih => exact .tup vs cs hl ih
  | fn f vs cs hl _ ih => exact .fn f vs cs hl ih
  | clo f b v c hb hN hr _ ih => exact .clo f b v c (Nat.lt_of_lt_of_le hb e.size) (fun h => hN (e.less b hb h)) (by rw [e.cell hb hN]; exact hr) ih
  | nil => exact .nil
  | emp a cap => exact .emp a cap
  | sl b off cap sz es c hb hN hz hc h1 hr _ ih =>
    exact .sl b off cap sz es c (Nat.lt_of_lt_of_le hb e.size) (fun h => hN (e.less b hb h)) hz hc h1 (fun i j hi hj => by rw [e.cell hb hN]; exact hr i j hi hj) ih
def BSt.owned : BSt → Bool
  | .var _ | .sl _ _ => true
  | _ => false
abbrev Bt := Nat → Option (Nat × Nat)
/-- what some frame may still write: the blocks of others, and those of this one -/
def Nn (O : Nat → Prop) (β : Bt) (bx : Nat → Box) (b : Nat) : Prop := O b ∨ ∃ d base, (bx d).st.owned = true ∧ β d = some (b, base)
def CellsAt (w : World) (N : Nat → Prop) (b off : Nat) (cs : List CV) : Prop :=
  (∀ c ∈ cs, c.one = true) ∧ ∀ (j : Nat) (hj : j < cs.length), ∃ v, w.cell? ⟨b, off + j, none⟩ = some v ∧ V w N v cs[j]
theorem CellsAt.ext {w w' : World} {N N' : Nat → Prop} {b off : Nat} {cs : List CV} (e : Ext w N w' N') (hc : w'.heap[b]? = w.heap[b]?) (h : CellsAt w N b off cs) : CellsAt w' N' b off cs :=
  ⟨h.1, fun j hj => by
    obtain ⟨v, hv, hV⟩ := h.2 j hj
    exact ⟨v, by simp only [World.cell?, hc] at hv ⊢; exact hv, hV.ext e⟩⟩
/-- a block of the frame's own -/
def OwnB (w : World) (b n : Nat) : Prop := ∃ arr el, w.heap[b]? = some (.cells arr el (0, 0)) ∧ n ≤ arr.size
def BR (w : World) (N : Nat → Prop) (p : Option (Nat × Nat)) : BSt → Prop
  | .var cs => ∃ b base, p = some (b, base) ∧ OwnB w b (base + cs.length) ∧ CellsAt w N b base cs
  | .vfz cs => ∃ b base, p = some (b, base) ∧ b < w.heap.size ∧ ¬ N b ∧ CellsAt w N b base cs
  | .sl sz es => (∀ e ∈ es, e.length = sz) ∧ ((p = none ∧ es = []) ∨ ∃ b, p = some (b, 0) ∧ OwnB w b (es.length * sz) ∧ ∀ (i : Nat) (hi : i < es.length), CellsAt w N b (i * sz) es[i])
  | .dead => True
def R (w : World) (N : Nat → Prop) (β : Bt) (bx : Nat → Box) (v : Value) : PV → Prop
  | .c c => V w N v c
  | .ptr d ver off => ver ≤ (bx d).ver ∧ (ver = (bx d).ver → ∀ cs, ((bx d).st = .var cs ∨ (bx d).st = .vfz cs) → ∃ b base, β d = some (b, base) ∧ v = .pointer (some ⟨b, base + off, none⟩))
  | .rp cs => ∃ b off, v = .pointer (some ⟨b, off, none⟩) ∧ b < w.heap.size ∧ ¬ N b ∧ CellsAt w N b off cs
  | .osl d ver off len => ver ≤ (bx d).ver ∧ (ver = (bx d).ver → ∀ sz es, (bx d).st = .sl sz es → off = 0 ∧
      ((β d = none ∧ v = .slice none 0 0 ∧ len = 0) ∨ ∃ b cap, β d = some (b, 0) ∧ v = .slice (some ⟨b, 0, none⟩) len cap ∧ len ≤ cap ∧ OwnB w b (cap * sz)))
  | .sp d ver i off => ver ≤ (bx d).ver ∧ (ver = (bx d).ver → ∀ sz es, (bx d).st = .sl sz es → ∃ b, β d = some (b, 0) ∧ v = .pointer (some ⟨b, i * sz + off, none⟩))
  | .undef => v = Go.undef
  | .junk => True
structure Sim (O : Nat → Prop) (w0 : World) (A0 : Nat → Prop) (β : Bt) (s : PS) (tm : Nat → Value) (w : World) : Prop where
  os : w.os = w0.os
  tape : w.tape = w0.tape
  output : w.output = w0.output
  size : w0.heap.size ≤ w.heap.size
  keep : ∀ b, b < w0.heap.size → ¬ A0 b → w.heap[b]? = w0.heap[b]?
  temps : ∀ i, R w (Nn O β s.bx) β s.bx (tm i) (s.t i)
  boxes : ∀ d, BR w (Nn O β s.bx) (β d) (s.bx d).st
  inj : ∀ d d' p p', d ≠ d' → (s.bx d).st.owned = true → (s.bx d').st.owned = true → β d = some p → β d' = some p' → p.1 ≠ p'.1
  out : ∀ d p, (s.bx d).st.owned = true → β d = some p → ¬ O p.1 ∧ p.1 < w.heap.size ∧ (p.1 < w0.heap.size → A0 p.1)
  outer : ∀ b, O b → b < w0.heap.size ∧ ¬ A0 b
theorem OwnB.lt {w : World} {b n : Nat} (h : OwnB w b n) : b < w.heap.size := by
  obtain ⟨arr, el, h, _⟩ := h
  exact (Array.getElem?_eq_some_iff.1 h).1
theorem OwnB.of_eq {w w' : World} {b n : Nat} (h : OwnB w b n) (e : w'.heap[b]? = w.heap[b]?) : OwnB w' b n := by
  obtain ⟨arr, el, h, hn⟩ := h
  exact ⟨arr, el, by rw [e]; exact h, hn⟩
/-- A new value in a slot, nothing else. -/
theorem Sim.put {O A0 : Nat → Prop} {w0 w : World} {β : Bt} {s : PS} {tm : Nat → Value} (h : Sim O w0 A0 β s tm w) (d : Nat) (pv : PV) (v : Value)
    (hv : R w (Nn O β s.bx) β s.bx v pv) : Sim O w0 A0 β (s.put d pv) (fun i => if i = d then v else tm i) w where
  os := h.os
  tape := h.tape
  output := h.output
  size := h.size
  keep := h.keep
  temps := fun i => by
    by_cases e : i = d
    · simp only [PS.put, if_pos e]; exact hv
    · simp only [PS.put, if_neg e]; exact h.temps i
  boxes := h.boxes
  inj := h.inj
  out := h.out
  outer := h.outer
/-- How a box may change: it is made anew, or it is gone, or it is as it lay, with other contents. -/
def Compat (w w' : World) (p p' : Option (Nat × Nat)) (b b' : Box) : Prop :=
  b.ver < b'.ver ∨ (b.ver = b'.ver ∧ (b'.st = .dead ∨ (p' = p ∧
    (∀ cs, b'.st = .var cs → ∃ cs', b.st = .var cs') ∧ (∀ cs, b'.st = .vfz cs → ∃ cs', b.st = .var cs' ∨ b.st = .vfz cs') ∧
    (∀ sz es, b'.st = .sl sz es → (∃ es', b.st = .sl sz es') ∧ ∀ q n, p = some q → OwnB w q.1 n → OwnB w' q.1 n))))
theorem Compat.ver {w w' : World} {p p' : Option (Nat × Nat)} {b b' : Box} (h : Compat w w' p p' b b') : b.ver ≤ b'.ver := by
  rcases h with h | h
  · omega
  · omega
theorem R.change {w w' : World} {N N' : Nat → Prop} {β β' : Bt} {bx bx' : Nat → Box} {v : Value} {pv : PV} (e : Ext w N w' N') (hc : ∀ d, Compat w w' (β d) (β' d) (bx d) (bx' d))
    (h : R w N β bx v pv) : R w' N' β' bx' v pv := by
  cases pv with
  | c c => exact V.ext e h
  | ptr d ver off =>
    obtain ⟨h1, h2⟩ := h
    refine ⟨Nat.le_trans h1 (hc d).ver, fun hv cs hs => ?_⟩
    rcases hc d with hlt | ⟨heq, hd | ⟨hp, hk, hk', _⟩⟩
    · omega
    · rcases hs with hs | hs <;> rw [hd] at hs <;> cases hs
    · have : ∃ cs, (bx d).st = .var cs ∨ (bx d).st = .vfz cs := by
        rcases hs with hs | hs
        · obtain ⟨c, hc⟩ := hk cs hs; exact ⟨c, .inl hc⟩
        · exact hk' cs hs
      obtain ⟨cs', hs'⟩ := this
      obtain ⟨b, base, hb, he⟩ := h2 (by omega) cs' hs'
      exact ⟨b, base, by rw [hp]; exact hb, he⟩
  | rp cs =>
    obtain ⟨b, off, hv, hb, hN, hcs⟩ := h
    exact ⟨b, off, hv, Nat.lt_of_lt_of_le hb e.size, fun hn => hN (e.less b hb hn), hcs.ext e (e.keep b hb hN)⟩
  | osl d ver off len =>
    obtain ⟨h1, h2⟩ := h
    refine ⟨Nat.le_trans h1 (hc d).ver, fun hv sz es hs => ?_⟩
    rcases hc d with hlt | ⟨heq, hd | ⟨hp, hk, _, hk2⟩⟩
    · omega
    · rw [hd] at hs; cases hs
    · obtain ⟨⟨es', hs'⟩, hown⟩ := hk2 sz es hs
      obtain ⟨ho, hor⟩ := h2 (by omega) sz es' hs'
      refine ⟨ho, ?_⟩
      rcases hor with ⟨a, b, c⟩ | ⟨b, cap, hb, hv, hl, ho⟩
      · exact .inl ⟨by rw [hp]; exact a, b, c⟩
      · exact .inr ⟨b, cap, by rw [hp]; exact hb, hv, hl, hown _ _ hb ho⟩
  | sp d ver i off =>
    obtain ⟨h1, h2⟩ := h
    refine ⟨Nat.le_trans h1 (hc d).ver, fun hv sz es hs => ?_⟩
    rcases hc d with hlt | ⟨heq, hd | ⟨hp, hk, _, hk2⟩⟩
    · omega
    · rw [hd] at hs; cases hs
    · obtain ⟨⟨es', hs'⟩, _⟩ := hk2 sz es hs
      obtain ⟨b, hb, hv⟩ := h2 (by omega) sz es' hs'
      exact ⟨b, by rw [hp]; exact hb, hv⟩
  | undef => exact h
  | junk => trivial
theorem Compat.same {w w' : World} {p : Option (Nat × Nat)} {b : Box} (h : ∀ q n, b.st.owned = true → p = some q → OwnB w q.1 n → OwnB w' q.1 n) : Compat w w' p p b b :=
  .inr ⟨rfl, .inr ⟨rfl, fun cs h => ⟨cs, h⟩, fun cs h => ⟨cs, .inr h⟩, fun sz es hs => ⟨⟨es, hs⟩, fun q n hq => h q n (by rw [hs]; rfl) hq⟩⟩⟩
/-- ONE BOX CHANGES (or none: 'd' out of use), the world goes on: what is owed for it. -/
theorem Sim.change {O A0 : Nat → Prop} {w0 w w' : World} {β : Bt} {s : PS} {tm : Nat → Value} (h : Sim O w0 A0 β s tm w) (d : Nat) (p' : Option (Nat × Nat)) (b' : Box)
    (hos : w'.os = w.os) (htape : w'.tape = w.tape) (hout : w'.output = w.output) (hsize : w.heap.size ≤ w'.heap.size)
    -- blocks that stood are as they were, but that of 'd'
    (hkeep : ∀ b, b < w.heap.size → (∀ p, (s.bx d).st.owned = true → β d = some p → b ≠ p.1) → w'.heap[b]? = w.heap[b]?)
    (hcompat : Compat w w' (β d) p' (s.bx d) b')
    -- the new block: it was 'd's own, or it is new
    (hnew : ∀ p, b'.st.owned = true → p' = some p → ((s.bx d).st.owned = true ∧ ∃ q, β d = some q ∧ q.1 = p.1) ∨ (w.heap.size ≤ p.1 ∧ p.1 < w'.heap.size))
    (hbr : BR w' (Nn O (fun i => if i = d then p' else β i) (fun i => if i = d then b' else s.bx i)) p' b'.st) :
    Sim O w0 A0 (fun i => if i = d then p' else β i) (s.box d b') tm w' := by
  have hless : ∀ b, b < w.heap.size → Nn O (fun i => if i = d then p' else β i) (fun i => if i = d then b' else s.bx i) b → Nn O β s.bx b := by
    intro b hb hn
    rcases hn with hn | ⟨i, base, ho, hi⟩
    · exact .inl hn
    · by_cases e : i = d
      · subst e
        simp only [if_true] at ho hi
        rcases hnew _ ho hi with ⟨ho', q, hq, he⟩ | ⟨h1, _⟩
        · exact .inr ⟨i, q.2, ho', by obtain ⟨q1, q2⟩ := q; simp at he; rw [hq, he]⟩
        · simp at h1; omega
      · simp only [if_neg e] at ho hi
        exact .inr ⟨i, base, ho, hi⟩
  have e : Ext w (Nn O β s.bx) w' (Nn O (fun i => if i = d then p' else β i) (fun i => if i = d then b' else s.bx i)) := by
    refine ⟨hsize, fun b hb hn => hkeep b hb fun p ho hp he => hn (.inr ⟨d, p.2, ho, by rw [hp, he]⟩), hless⟩
  have hblk : ∀ i p, i ≠ d → (s.bx i).st.owned = true → β i = some p → w'.heap[p.1]? = w.heap[p.1]? := by
    intro i p hi ho hp
    refine hkeep _ (h.out i p ho hp).2.1 fun q ho' hq => ?_
    exact h.inj i d p q hi ho ho' hp hq
  have hcomp : ∀ i, Compat w w' (β i) ((fun i => if i = d then p' else β i) i) (s.bx i) ((fun i => if i = d then b' else s.bx i) i) := by
    intro i
    by_cases hi : i = d
    · subst hi; simp only [if_true]; exact hcompat
    · simp only [if_neg hi]
      exact Compat.same fun q n ho hq hw => hw.of_eq (hblk i q hi ho hq)
  refine ⟨hos.trans h.os, htape.trans h.tape, hout.trans h.output, Nat.le_trans h.size hsize, ?_, fun i => (h.temps i).change e hcomp, ?_, ?_, ?_, h.outer⟩
  · intro b hb hn
    rw [hkeep b (Nat.lt_of_lt_of_le hb h.size) fun p ho hp he => hn (he ▸ (h.out d p ho hp).2.2 (he ▸ hb))]
    exact h.keep b hb hn
  · intro i
    by_cases hi : i = d
    · subst hi; simp only [PS.box, if_true]; exact hbr
    · have hb := h.boxes i
      simp only [PS.box, if_neg hi]
      cases hst : (s.bx i).st with
      | var cs =>
        rw [hst] at hb
        obtain ⟨b, base, hp, ho, hc⟩ := hb
        have hq := hblk i _ hi (by rw [hst]; rfl) hp
        exact ⟨b, base, hp, ho.of_eq hq, hc.ext e hq⟩
      | vfz cs =>
        rw [hst] at hb
        obtain ⟨b, base, hp, hlt, hN, hc⟩ := hb
        exact ⟨b, base, hp, Nat.lt_of_lt_of_le hlt hsize, fun hn => hN (hless b hlt hn), hc.ext e (e.keep b hlt hN)⟩
      | sl sz es =>
        rw [hst] at hb
        refine ⟨hb.1, ?_⟩
        rcases hb.2 with hb | ⟨b, hp, ho, hc⟩
        · exact .inl hb
        · have hq := hblk i _ hi (by rw [hst]; rfl) hp
          exact .inr ⟨b, hp, ho.of_eq hq, fun i hi => (hc i hi).ext e hq⟩
      | dead => trivial
  · intro i j p q hij hi hj hp hq
    simp only [PS.box] at hi hj
    by_cases ei : i = d
    · subst ei
      have ej : j ≠ i := fun e => hij e.symm
      simp only [if_true, if_neg ej] at hi hj hp hq
      rcases hnew _ hi hp with ⟨ho', r, hr, he⟩ | ⟨h1, _⟩
      · rw [← he]; exact h.inj i j r q hij ho' hj hr hq
      · have := (h.out j q hj hq).2.1; omega
    · by_cases ej : j = d
      · subst ej
        simp only [if_true, if_neg ei] at hi hj hp hq
        rcases hnew _ hj hq with ⟨ho', r, hr, he⟩ | ⟨h1, _⟩
        · rw [← he]; exact h.inj i j p r hij hi ho' hp hr
        · have := (h.out i p hi hp).2.1; omega
      · simp only [if_neg ei, if_neg ej] at hi hj hp hq
        exact h.inj i j p q hij hi hj hp hq
  · intro i p hi hp
    simp only [PS.box] at hi
    by_cases ei : i = d
    · subst ei
      simp only [if_true] at hi hp
      rcases hnew _ hi hp with ⟨ho', r, hr, he⟩ | ⟨h1, h2⟩
      · have := h.out i r ho' hr; rw [he] at this; exact ⟨this.1, Nat.lt_of_lt_of_le this.2.1 hsize, this.2.2⟩
      · exact ⟨fun ho => by have := (h.outer _ ho).1; have := h.size; omega, h2, fun hlt => by have := h.size; omega⟩
    · simp only [if_neg ei] at hi hp
      have := h.out i p hi hp
      exact ⟨this.1, Nat.lt_of_lt_of_le this.2.1 hsize, this.2.2⟩
end Go.Pl
/-
  EACH OPERATION OF THE MODEL DOES TO A FRAME AND A WORLD WHAT THE PLAIN STEP DOES TO THE STATE THAT IS SAID OF THEM. My own work.
-/
namespace Go.Pl
open Go
set_option linter.unusedVariables false
def tmf (a : Act) : Nat → Value := fun i => a.tmps.getD i undef
theorem tmf_put {a : Act} {d : Nat} (v : Value) (h : d < a.tmps.size) : tmf (a.put (some d) v) = fun i => if i = d then v else tmf a i := by
  funext i
  simp only [tmf, Act.put, Array.getD_eq_getD_getElem?, Array.getElem?_setIfInBounds]
  by_cases e : i = d
  · subst e; simp [h]
  · have : ¬ d = i := fun h => e h.symm
    simp [e, this]
def dstOk (o : Option Nat) (n : Nat) : Prop := ∀ d, o = some d → d < n
theorem Sim.putO {O A0 : Nat → Prop} {w0 w : World} {β : Bt} {s : PS} {a : Act} (h : Sim O w0 A0 β s (tmf a) w) (o : Option Nat) (ho : dstOk o a.tmps.size) (pv : PV) (v : Value)
    (hv : R w (Nn O β s.bx) β s.bx v pv) : Sim O w0 A0 β (s.putO o pv) (tmf (a.put o v)) w := by
  cases o with
  | none => exact h
  | some d => rw [tmf_put v (ho d rfl)]; exact h.put d pv v hv
/-! ### Constants and operands -/
def chk1 : Value → CV → Bool
  | .int k n, .int k' m => decide (k = k' ∧ n = m)
  | .bool a, .bool b => a == b
  | .string a, .str b => decide (a = b)
  | .pointer none, .nilp => true
  | .nilIface, .nili => true
  | .nilFunc, .nilf => true
  | .slice none 0 0, .sl [] => true
  | _, _ => false
def chkL : List Value → List CV → Bool
  | [], [] => true
  | v :: l, c :: m => chk1 v c && chkL l m
  | _, _ => false
def chkV : Value → CV → Bool
  | .agg vs, .agg cs => chkL vs.toList cs
  | v, c => chk1 v c
theorem chk1_V {v : Value} {c : CV} (h : chk1 v c = true) (w : World) (N : Nat → Prop) : V w N v c ∧ c.one = true := by
  unfold chk1 at h
  split at h
  · obtain ⟨rfl, rfl⟩ := of_decide_eq_true h; exact ⟨.int _ _, rfl⟩
  · obtain rfl := eq_of_beq h; exact ⟨.bool _, rfl⟩
  · obtain rfl := of_decide_eq_true h; exact ⟨.str _, rfl⟩
  · exact ⟨.nilp, rfl⟩
  · exact ⟨.nili, rfl⟩
  · exact ⟨.nilf, rfl⟩
  · exact ⟨.nil, rfl⟩
  · cases h
theorem chkL_V {w : World} {N : Nat → Prop} : ∀ {vs : List Value} {cs : List CV}, chkL vs cs = true →
    vs.length = cs.length ∧ (∀ c ∈ cs, c.one = true) ∧ ∀ (i : Nat) (h1 : i < vs.length) (h2 : i < cs.length), V w N vs[i] cs[i]
  | [], [], _ => ⟨rfl, by simp, fun i h => by simp at h⟩
  | v :: l, c :: m, h => by
    simp only [chkL, Bool.and_eq_true] at h
    obtain ⟨hl, h1, hv⟩ := chkL_V (w := w) (N := N) h.2
    have h0 := chk1_V h.1 w N
    refine ⟨by simp [hl], ?_, ?_⟩
    · intro x hx
      rcases List.mem_cons.1 hx with rfl | hx
      · exact h0.2
      · exact h1 x hx
    · intro i hi hj
      cases i with
      | zero => exact h0.1
      | succ i => exact hv i (by simpa using hi) (by simpa using hj)
theorem chkV_V {v : Value} {c : CV} (h : chkV v c = true) (w : World) (N : Nat → Prop) : V w N v c := by
  unfold chkV at h
  split at h
  · rename_i vs cs
    obtain ⟨hl, h1, hv⟩ := chkL_V (w := w) (N := N) h
    exact .agg vs cs (by simpa using hl) h1 (fun i hi hj => by have := hv i (by simpa using hi) hj; simpa using this)
  · exact (chk1_V h w N).1
def chkPO : Operand → PO → Bool
  | .tmp i, .t j => decide (i = j)
  | .const v, .k c => chkV v c
  | .func f, .k (.fn (.func g) []) => decide (f = g)
  | _, _ => false
section
variable {O A0 : Nat → Prop} {w0 w : World} {β : Bt} {s : PS} {a : Act} {P : Program}
theorem ev_R (h : Sim O w0 A0 β s (tmf a) w) {x : Operand} {y : PO} (hc : chkPO x y = true) : R w (Nn O β s.bx) β s.bx (a.eval x) (s.ev y) := by
  unfold chkPO at hc
  split at hc
  · obtain rfl := of_decide_eq_true hc; exact h.temps _
  · exact chkV_V hc _ _
  · obtain rfl := of_decide_eq_true hc
    exact V.fn _ #[] [] rfl (fun i hi => by simp at hi)
  · cases hc
theorem evc_V (h : Sim O w0 A0 β s (tmf a) w) {x : Operand} {y : PO} {c : CV} (hc : chkPO x y = true) (he : s.evc y = some c) : V w (Nn O β s.bx) (a.eval x) c := by
  have := ev_R h hc
  unfold PS.evc at he
  split at he
  · rename_i v hv; rw [hv] at this; obtain rfl := Option.some.inj he; exact this
  · cases he
theorem V.int_inv {N : Nat → Prop} {v : Value} {k : IntKind} {n : Int} (h : V w N v (.int k n)) : v = .int k n := by cases h; rfl
theorem V.bool_inv {N : Nat → Prop} {v : Value} {b : Bool} (h : V w N v (.bool b)) : v = .bool b := by cases h; rfl
theorem V.str_inv {N : Nat → Prop} {v : Value} {b : ByteArray} (h : V w N v (.str b)) : v = .string b := by cases h; rfl
/-- The cells of a value that is no tuple. -/
theorem V.cells {N : Nat → Prop} {v : Value} {c : CV} (h : V w N v c) (hn : 0 < c.cells.length) :
    v.cells.size = c.cells.length ∧ (∀ x ∈ c.cells, x.one = true) ∧ ∀ (j : Nat) (h1 : j < v.cells.size) (h2 : j < c.cells.length), V w N v.cells[j] c.cells[j] := by
  have one : ∀ {v : Value} {c : CV}, V w N v c → v.cells = #[v] → c.cells = [c] → c.one = true →
      v.cells.size = c.cells.length ∧ (∀ x ∈ c.cells, x.one = true) ∧ ∀ (j : Nat) (h1 : j < v.cells.size) (h2 : j < c.cells.length), V w N v.cells[j] c.cells[j] := by
    intro v c h hv hc h1
    simp only [hv, hc]
    refine ⟨rfl, by simpa using h1, fun j hj hj' => ?_⟩
    have : j = 0 := by simp at hj; omega
    subst this
    exact h
  cases h with
  | agg vs cs hl h1 h => exact ⟨hl, h1, h⟩
  | tup vs cs hl h => simp [CV.cells] at hn
  | int k n => exact one (.int k n) rfl rfl rfl
  | bool b => exact one (.bool b) rfl rfl rfl
  | str s => exact one (.str s) rfl rfl rfl
  | nilp => exact one .nilp rfl rfl rfl
  | nili => exact one .nili rfl rfl rfl
  | nilf => exact one .nilf rfl rfl rfl
  | iface t v c h => exact one (.iface t v c h) rfl rfl rfl
  | fn f vs cs hl h => exact one (.fn f vs cs hl h) rfl rfl rfl
  | clo f b v c hb hN hr h => exact one (.clo f b v c hb hN hr h) rfl rfl rfl
  | nil => exact one .nil rfl rfl rfl
  | emp b cap => exact one (.emp b cap) rfl rfl rfl
  | sl b off cap sz es c hb hN hz hc h1 hr h => exact one (.sl b off cap sz es c hb hN hz hc h1 hr h) rfl rfl rfl
/-! ### What a step owes -/
/-- The model's operation 'o' does what the plain step does. -/
def Does (P : Program) (o : Oper) (O A0 : Nat → Prop) (w0 : World) (a : Act) (w : World) (s' : PS) : Prop :=
  ∃ nx v w' β', (execOp a.eval o).run P w = .ok nx w' ∧ (nx = .value v ∨ (nx = .skip ∧ v = undef)) ∧ Sim O w0 A0 β' s' (tmf (a.put o.dst v)) w'
theorem Does.val {o : Oper} (h : Sim O w0 A0 β s (tmf a) w) (ho : dstOk o.dst a.tmps.size) {v : Value} {pv : PV} (hr : (execOp a.eval o).run P w = .ok (.value v) w)
    (hv : R w (Nn O β s.bx) β s.bx v pv) : Does P o O A0 w0 a w (s.putO o.dst pv) :=
  ⟨_, v, w, β, hr, .inl rfl, h.putO _ ho pv v hv⟩
/-- A new block for box 'd', and the slot 'd' points to it. -/
theorem sim_new (h : Sim O w0 A0 β s (tmf a) w) {d : Nat} (hd : d < a.tmps.size) (cells : Array Value) (el : TypeId) (b' : Box) (pv : PV) (v : Value)
    (hver : (s.bx d).ver < b'.ver)
    (hbr : ∀ N : Nat → Prop, Ext w (Nn O β s.bx) (w.alloc (.cells cells el)) N → BR (w.alloc (.cells cells el)) N (some (w.heap.size, 0)) b'.st)
    (hR : ∀ N β' bx', β' d = some (w.heap.size, 0) → bx' d = b' → R (w.alloc (.cells cells el)) N β' bx' v pv) :
    Sim O w0 A0 (fun i => if i = d then some (w.heap.size, 0) else β i) ((s.box d b').put d pv) (tmf (a.put (some d) v)) (w.alloc (.cells cells el)) := by
  have hsize : (w.alloc (.cells cells el)).heap.size = w.heap.size + 1 := Array.size_push _
  have hk : ∀ b, b < w.heap.size → (w.alloc (.cells cells el)).heap[b]? = w.heap[b]? := fun b hb => by
    show (w.heap.push _)[b]? = _; rw [Array.getElem?_push, if_neg (by omega)]
  have hext : Ext w (Nn O β s.bx) (w.alloc (.cells cells el)) (Nn O (fun i => if i = d then some (w.heap.size, 0) else β i) (fun i => if i = d then b' else s.bx i)) := by
    refine ⟨by omega, fun b hb _ => hk b hb, fun b hb hn => ?_⟩
    rcases hn with hn | ⟨i, base, ho, hi⟩
    · exact .inl hn
    · by_cases e : i = d
      · simp only [if_pos e, Option.some.injEq, Prod.mk.injEq] at hi; omega
      · simp only [if_neg e] at ho hi; exact .inr ⟨i, base, ho, hi⟩
  have := h.change (w' := w.alloc (.cells cells el)) d (some (w.heap.size, 0)) b' rfl rfl rfl (by omega) (fun b hb _ => hk b hb) (.inl hver)
    (fun p _ hp => by simp only [Option.some.injEq] at hp; subst hp; exact .inr ⟨Nat.le_refl _, by show w.heap.size < _; omega⟩) (hbr _ hext)
  rw [tmf_put v hd]
  exact this.put d pv v (hR _ _ _ (by simp) (by simp [PS.box]))
theorem Addr.add_zero' (b o : Nat) (j : Nat) : (⟨b, o, none⟩ : Addr).add j = ⟨b, o + j, none⟩ := Addr.add_mid b o j
/-- loading through a pointer to cells that read -/
theorem run_load_cells {N : Nat → Prop} {b off n : Nat} {cs : List CV} (t : TypeId) (d : TypeDesc) (i : TypeInfo) (hu : P.underlying t = some d) (hi : P.info? t = some i) (hn : i.size = n) (f : Bool) (hf : d.isRow = f)
    (h1 : f = false → n = 1) (hc : CellsAt w N b off cs) (hl : n ≤ cs.length) :
    ∃ v, (Instr.loadAt t (.pointer (some ⟨b, off, none⟩))).run P w = .ok v w ∧ V w N v (rdc f n cs) := by
  obtain ⟨ho, hc⟩ := hc
  cases f with
  | true =>
    have hex : ∀ j : Fin n, ∃ v, w.cell? ⟨b, off + j.1, none⟩ = some v ∧ V w N v (cs[j.1]'(by omega)) := fun j => hc j.1 (by omega)
    have hch := fun j => Classical.choose_spec (hex j)
    refine ⟨_, run_loadAt_mid w b off t (List.ofFn fun j => Classical.choose (hex j)) d ?_ hu hf (by simp [hi, hn]), ?_⟩
    · intro j v hv
      simp only [List.getElem?_ofFn] at hv
      split at hv
      · rename_i hj; obtain rfl := Option.some.inj hv; exact (hch ⟨j, hj⟩).1
      · cases hv
    · simp only [rdc, if_true]
      refine .agg _ _ (by simp; omega) (fun c hc' => ho c (List.mem_of_mem_take hc')) fun j h1 h2 => ?_
      have hj : j < n := by simpa using h1
      have := (hch ⟨j, hj⟩).2
      simpa using this
  | false =>
    have hn1 := h1 rfl
    obtain ⟨v, hv, hV⟩ := hc 0 (by omega)
    refine ⟨v, ?_, ?_⟩
    · have hagg : (isAgg t).run P w = .ok false w := by
        unfold isAgg
        rw [Sem.run_bind, run_underlying hu w]
        cases d <;> simp_all [TypeDesc.isRow]
      simp only [Nat.add_zero] at hv
      simp only [Instr.loadAt, Instr.sureAddr, Sem.run_bind, Sem.run_pure, Result.andThen_ok, loadVar, hagg, Bool.false_eq_true, if_false, run_load, hv]
    · cases cs with
      | nil => simp at hl; omega
      | cons c l => simpa [rdc] using hV
theorem CellsAt.drop {N : Nat → Prop} {b off : Nat} {cs : List CV} (h : CellsAt w N b off cs) (k : Nat) : CellsAt w N b (off + k) (cs.drop k) :=
  ⟨fun c hc => h.1 c (List.mem_of_mem_drop hc), fun j hj => by
    have hj' : k + j < cs.length := by simp at hj; omega
    obtain ⟨v, hv, hV⟩ := h.2 (k + j) hj'
    exact ⟨v, by rw [Nat.add_assoc]; exact hv, by simpa using hV⟩⟩
/-- the cells of a load's pointer -/
theorem load_cells (h : Sim O w0 A0 β s (tmf a) w) {x : Operand} {y : PO} (hc : chkPO x y = true) {dst : Option Nat} {f : Bool} {n : Nat} {av : List Nat} {s' : PS} (hs : pstep dst s (.load f n y av) = some s') :
    ∃ b off cs, a.eval x = .pointer (some ⟨b, off, none⟩) ∧ CellsAt w (Nn O β s.bx) b off cs ∧ n ≤ cs.length ∧ s' = s.putO dst (.c (rdc f n cs)) := by
  have hR := ev_R h hc
  simp only [pstep] at hs
  split at hs
  · rename_i cs hy
    rw [hy] at hR
    obtain ⟨b, off, hv, _, _, hcs⟩ := hR
    split at hs
    · exact ⟨b, off, cs, hv, hcs, ‹_›, (Option.some.inj hs).symm⟩
    · cases hs
  · rename_i d ver off hy
    rw [hy] at hR
    split at hs
    · cases hs
    · split at hs
      · rename_i v cs hb
        split at hs
        · rename_i hv
          obtain ⟨rfl, hl⟩ := hv
          obtain ⟨b, base, hβ, he⟩ := hR.2 (by rw [hb]) cs (.inl (by rw [hb]))
          have hB := h.boxes d
          rw [hb] at hB
          obtain ⟨b', base', hp, _, hcs⟩ := hB
          rw [hβ] at hp
          obtain ⟨rfl, rfl⟩ := Prod.mk.inj (Option.some.inj hp)
          exact ⟨b, base + off, cs.drop off, he, hcs.drop off, by simp; omega, (Option.some.inj hs).symm⟩
        · cases hs
      · rename_i v cs hb
        split at hs
        · rename_i hv
          obtain ⟨rfl, hl⟩ := hv
          obtain ⟨b, base, hβ, he⟩ := hR.2 (by rw [hb]) cs (.inr (by rw [hb]))
          have hB := h.boxes d
          rw [hb] at hB
          obtain ⟨b', base', hp, _, _, hcs⟩ := hB
          rw [hβ] at hp
          obtain ⟨rfl, rfl⟩ := Prod.mk.inj (Option.some.inj hp)
          exact ⟨b, base + off, cs.drop off, he, hcs.drop off, by simp; omega, (Option.some.inj hs).symm⟩
        · cases hs
      · cases hs
  · rename_i d ver i off hy
    rw [hy] at hR
    split at hs
    · cases hs
    · split at hs
      · rename_i v sz es hb
        split at hs
        · rename_i e he
          split at hs
          · rename_i hv
            obtain ⟨rfl, hl⟩ := hv
            obtain ⟨b, hβ, hp⟩ := hR.2 (by rw [hb]) sz es (by rw [hb])
            have hB := h.boxes d
            rw [hb] at hB
            rcases hB.2 with ⟨hn, _⟩ | ⟨b', hp', _, hcs⟩
            · rw [hβ] at hn; cases hn
            · rw [hβ] at hp'
              obtain ⟨rfl, _⟩ := Prod.mk.inj (Option.some.inj hp')
              obtain ⟨hi, rfl⟩ := List.getElem?_eq_some_iff.1 he
              exact ⟨b, i * sz + off, es[i].drop off, hp, (hcs i hi).drop off, by simp; omega, (Option.some.inj hs).symm⟩
          · cases hs
        · cases hs
      · cases hs
  · cases hs
/-! ### The operations -/
theorem ok_mv {o : Oper} {x : Operand} {y : PO} (ho : o.op = .move x ∨ o.op = .assign x) (h : Sim O w0 A0 β s (tmf a) w) (hd : dstOk o.dst a.tmps.size) (hc : chkPO x y = true) {s' : PS}
    (hs : pstep o.dst s (.mv y) = some s') : Does P o O A0 w0 a w s' := by
  obtain rfl := Option.some.inj hs
  refine Does.val h hd (v := a.eval x) ?_ (ev_R h hc)
  unfold execOp
  rcases ho with ho | ho <;> simp only [ho, Sem.run_pure]
theorem ok_pick {o : Oper} {c x y : Operand} {c' x' y' : PO} (ho : o.op = .pick c x y) (h : Sim O w0 A0 β s (tmf a) w) (hd : dstOk o.dst a.tmps.size) (hc : chkPO c c' = true) (hx : chkPO x x' = true) (hy : chkPO y y' = true) {s' : PS}
    (hs : pstep o.dst s (.pick c' x' y') = some s') : Does P o O A0 w0 a w s' := by
  simp only [pstep] at hs
  split at hs
  · rename_i t ht
    obtain rfl := Option.some.inj hs
    have hb := ev_R h hc
    rw [ht] at hb
    have hb := V.bool_inv hb
    refine Does.val h hd (v := if t = true then a.eval x else a.eval y) ?_ ?_
    · unfold execOp
      simp only [ho, hb, asBool, Sem.run_bind, Sem.run_pure, Result.andThen_ok]
    · cases t
      · exact ev_R h hy
      · exact ev_R h hx
  · cases hs
theorem ok_load {o : Oper} {t : TypeId} {x : Operand} {y : PO} {f : Bool} {n : Nat} {av : List Nat} (ho : o.op = .load t x) (h : Sim O w0 A0 β s (tmf a) w) (hd : dstOk o.dst a.tmps.size) (hc : chkPO x y = true)
    (d : TypeDesc) (i : TypeInfo) (hu : P.underlying t = some d) (hi : P.info? t = some i) (hn : i.size = n) (hf : d.isRow = f) (h1 : f = false → n = 1) {s' : PS}
    (hs : pstep o.dst s (.load f n y av) = some s') : Does P o O A0 w0 a w s' := by
  obtain ⟨b, off, cs, he, hcs, hl, rfl⟩ := load_cells h hc hs
  obtain ⟨v, hr, hV⟩ := run_load_cells t d i hu hi hn f hf h1 hcs hl
  refine Does.val h hd (v := v) ?_ hV
  unfold execOp
  simp only [ho, he, Sem.run_bind, hr, Result.andThen_ok, Sem.run_pure]
end
end Go.Pl
/-
  EACH OPERATION, GOES ON: new variables, stores, numbers, addresses. My own work.
-/
namespace Go.Pl
open Go
set_option linter.unusedVariables false
section
variable {O A0 : Nat → Prop} {w0 w : World} {β : Bt} {s : PS} {a : Act} {P : Program}
theorem Does.skip {o : Oper} (hdst : o.dst = none) {w' : World} {β' : Bt} {s' : PS} (hr : (execOp a.eval o).run P w = .ok .skip w') (h : Sim O w0 A0 β' s' (tmf a) w') : Does P o O A0 w0 a w s' :=
  ⟨.skip, undef, w', β', hr, .inr ⟨rfl, rfl⟩, by rw [hdst]; exact h⟩
/-- new cells read as what was put into them -/
theorem cellsAt_new (N : Nat → Prop) (cells : Array Value) (el : TypeId) (cs : List CV) (hl : cells.size = cs.length) (h1 : ∀ c ∈ cs, c.one = true)
    (hV : ∀ (j : Nat) (h1 : j < cells.size) (h2 : j < cs.length), V (w.alloc (.cells cells el)) N cells[j] cs[j]) :
    OwnB (w.alloc (.cells cells el)) w.heap.size cs.length ∧ CellsAt (w.alloc (.cells cells el)) N w.heap.size 0 cs := by
  have hb : (w.alloc (.cells cells el)).heap[w.heap.size]? = some (.cells cells el (0, 0)) := by
    show (w.heap.push _)[w.heap.size]? = _
    simp
  refine ⟨⟨cells, el, hb, by omega⟩, h1, fun j hj => ⟨cells[j], ?_, hV j (by omega) hj⟩⟩
  simp only [World.cell?, hb]
  simp [show j < cells.size by omega]
theorem ok_alloc {o : Oper} {el : TypeId} {z : List CV} {i : TypeInfo} {zv : Value} {d : Nat} (ho : o.op = .alloc el) (h : Sim O w0 A0 β s (tmf a) w) (hdst : o.dst = some d) (hd : d < a.tmps.size)
    (hi : P.info? el = some i) (hz : i.zero = some zv) (hc : chkL zv.cells.toList z = true) {s' : PS}
    (hs : pstep o.dst s (.alloc z) = some s') : Does P o O A0 w0 a w s' := by
  simp only [pstep, hdst] at hs
  obtain rfl := Option.some.inj hs
  refine ⟨.value (.pointer (some ⟨w.heap.size, 0, none⟩)), _, w.alloc (.cells zv.cells el), fun i => if i = d then some (w.heap.size, 0) else β i, ?_, .inl rfl, ?_⟩
  · unfold execOp
    simp only [ho, Instr.alloc, zeroValue, typeInfo, program, newVar, newRow, newObj, Sem.run_bind, Sem.run, hi, hz, Result.andThen_ok, Sem.run_pure]
    rfl
  · rw [hdst]
    refine sim_new h hd zv.cells el _ _ _ (Nat.lt_succ_self _) ?_ ?_
    · intro N he
      obtain ⟨hl, h1, hV⟩ := chkL_V (w := w.alloc (.cells zv.cells el)) (N := N) hc
      obtain ⟨h2, h3⟩ := cellsAt_new N zv.cells el z (by simpa using hl) h1 (fun j h1 h2 => by have := hV j (by simpa using h1) h2; simpa using this)
      exact ⟨w.heap.size, 0, rfl, by simpa using h2, h3⟩
    · intro N β' bx' hβ hb
      exact ⟨by rw [hb]; exact Nat.le_refl _, fun _ cs hcs => ⟨w.heap.size, 0, hβ, rfl⟩⟩
theorem ok_box {o : Oper} {el : TypeId} {x : Operand} {y : PO} {n d : Nat} (ho : o.op = .box el x) (h : Sim O w0 A0 β s (tmf a) w) (hdst : o.dst = some d) (hd : d < a.tmps.size)
    (hc : chkPO x y = true) (hn : 0 < n) {s' : PS} (hs : pstep o.dst s (.box n y) = some s') : Does P o O A0 w0 a w s' := by
  simp only [pstep, hdst] at hs
  split at hs
  · rename_i e v he hv
    obtain rfl := Option.some.inj he
    split at hs
    · rename_i hlen
      obtain rfl := Option.some.inj hs
      have hV := evc_V h hc hv
      refine ⟨.value (.pointer (some ⟨w.heap.size, 0, none⟩)), _, w.alloc (.cells (a.eval x).cells el), fun i => if i = d then some (w.heap.size, 0) else β i, ?_, .inl rfl, ?_⟩
      · unfold execOp
        simp only [ho, Instr.box, newVar, newRow, newObj, Sem.run_bind, Sem.run, Result.andThen_ok, Sem.run_pure]
        rfl
      · rw [hdst]
        refine sim_new h hd _ el _ _ _ (Nat.lt_succ_self _) ?_ ?_
        · intro N he
          obtain ⟨h1, h2, h3⟩ := V.cells (hV.ext he) (by omega)
          obtain ⟨h4, h5⟩ := cellsAt_new N (a.eval x).cells el v.cells h1 h2 h3
          exact ⟨w.heap.size, 0, rfl, by simpa using h4, h5⟩
        · intro N β' bx' hβ hb
          exact ⟨by rw [hb]; exact Nat.le_refl _, fun _ cs hcs => ⟨w.heap.size, 0, hβ, rfl⟩⟩
    · cases hs
  · cases hs
/-- a store of cells into the frame's own block: the world behind it -/
theorem run_store_cells {b off : Nat} {arr : Array Value} {el t : TypeId} {i : TypeInfo} {v : Value} (hb : w.heap[b]? = some (.cells arr el (0, 0))) (hi : P.info? t = some i) (hn : v.cells.size = i.size)
    (hl : off + v.cells.size ≤ arr.size) (h1 : ∀ x ∈ v.cells.toList, x.oneCell' = true) :
    (Instr.storeAt t (.pointer (some ⟨b, off, none⟩)) v).run P w = .ok () (w.setRow b (arr.toList.take off ++ v.cells.toList ++ arr.toList.drop (off + v.cells.size)).toArray) := by
  have := run_storeCells_at (P := P) b off el v.cells.toList 0 arr w hb (by simpa using hl) h1
  simp only [Nat.add_zero, Array.length_toList] at this
  simp [Instr.storeAt, Instr.sureAddr, storeVar, sizeOf, typeInfo, program, Sem.run_bind, Sem.run, hi, hn]
  simpa [hn] using this
theorem spl_length {cs new : List CV} {off : Nat} (h : off + new.length ≤ cs.length) : (spl cs off new).length = cs.length := by
  simp [spl]; omega
theorem spl_get? {cs new : List CV} {off : Nat} (h : off + new.length ≤ cs.length) (j : Nat) :
    (spl cs off new)[j]? = if off ≤ j ∧ j < off + new.length then new[j - off]? else cs[j]? := by
  have ht : (cs.take off).length = off := by simp; omega
  unfold spl
  split
  · rename_i h1
    rw [List.getElem?_append_right (by omega), List.getElem?_append_left (by omega), ht]
  · rename_i h1
    by_cases h2 : j < off
    · rw [List.getElem?_append_left (by omega), List.getElem?_take, if_pos h2]
    · rw [List.getElem?_append_right (by omega), List.getElem?_append_right (by omega), List.getElem?_drop, ht]
      congr 1
      omega
theorem spl_get {cs new : List CV} {off : Nat} (h : off + new.length ≤ cs.length) (j : Nat) (hj : j < (spl cs off new).length) :
    (spl cs off new)[j] = if h1 : off ≤ j ∧ j < off + new.length then new[j - off]'(by omega) else cs[j]'(by rw [spl_length h] at hj; exact hj) := by
  have hj' : j < cs.length := by rw [spl_length h] at hj; exact hj
  have := spl_get? h j
  rw [List.getElem?_eq_getElem hj] at this
  split at this
  · rename_i h1
    rw [List.getElem?_eq_getElem (by omega)] at this
    rw [dif_pos h1]; exact Option.some.inj this
  · rename_i h1
    rw [List.getElem?_eq_getElem hj'] at this
    rw [dif_neg h1]; exact Option.some.inj this
/-- cells behind a write into their block -/
theorem cellsAt_write {N N' : Nat → Prop} {b base off : Nat} {arr : Array Value} {el : TypeId} {cs : List CV} {v : Value} {c : CV} (hb : w.heap[b]? = some (.cells arr el (0, 0)))
    (hsz : base + cs.length ≤ arr.size) (hcs : CellsAt w N b base cs) (hV : V w N v c) (hn : 0 < c.cells.length) (hl : off + c.cells.length ≤ cs.length)
    (he : Ext w N (w.setRow b (arr.toList.take (base + off) ++ v.cells.toList ++ arr.toList.drop (base + off + v.cells.size)).toArray) N') :
    CellsAt (w.setRow b (arr.toList.take (base + off) ++ v.cells.toList ++ arr.toList.drop (base + off + v.cells.size)).toArray) N' b base (spl cs off c.cells) := by
  obtain ⟨h1, h2, h3⟩ := hV.cells hn
  refine ⟨?_, ?_⟩
  · intro x hx
    simp only [spl, List.mem_append] at hx
    rcases hx with hx | hx | hx
    · exact hcs.1 x (List.mem_of_mem_take hx)
    · exact h2 x hx
    · exact hcs.1 x (List.mem_of_mem_drop hx)
  · intro j hj
    have hj' : j < cs.length := by rw [spl_length hl] at hj; exact hj
    have hcell : ∀ k : Nat, (w.setRow b (arr.toList.take (base + off) ++ v.cells.toList ++ arr.toList.drop (base + off + v.cells.size)).toArray).cell? ⟨b, k, none⟩ =
        (arr.toList.take (base + off) ++ v.cells.toList ++ arr.toList.drop (base + off + v.cells.size))[k]? := by
      intro k
      simp [World.cell?, setRow_heap w b arr _ el _ hb]
    rw [hcell, spl_get hl j hj]
    obtain ⟨u, hu, hU⟩ := hcs.2 j hj'
    have hu' : arr[base + j]? = some u := by simpa [World.cell?, hb] using hu
    split
    · rename_i hin
      have hk : j - off < v.cells.size := by omega
      refine ⟨v.cells[j - off], ?_, (h3 (j - off) hk (by omega)).ext he⟩
      rw [List.append_assoc, List.getElem?_append_right (by simp; omega), List.getElem?_append_left (by simp; omega)]
      simp only [List.length_take, Array.length_toList]
      rw [show base + j - min (base + off) arr.size = j - off by omega]
      simp [hk]
    · rename_i hin
      refine ⟨u, ?_, hU.ext he⟩
      by_cases h2 : j < off
      · rw [List.append_assoc, List.getElem?_append_left (by simp; omega)]
        simp only [List.getElem?_take, Array.getElem?_toList]
        rw [if_pos (by omega)]
        exact hu'
      · rw [List.getElem?_append_right (by simp; omega)]
        simp only [List.length_append, List.length_take, Array.length_toList, List.getElem?_drop, Array.getElem?_toList]
        rw [show base + off + v.cells.size + (base + j - (min (base + off) arr.size + v.cells.size)) = base + j by omega]
        exact hu'
theorem write_size {arr : Array Value} {k : Nat} {v : Value} (h : k + v.cells.size ≤ arr.size) :
    (arr.toList.take k ++ v.cells.toList ++ arr.toList.drop (k + v.cells.size)).toArray.size = arr.size := by
  simp; omega
theorem ok_store {o : Oper} {t : TypeId} {x y : Operand} {x' y' : PO} {n : Nat} {av : List Nat} {i : TypeInfo} (ho : o.op = .store t x y) (h : Sim O w0 A0 β s (tmf a) w) (hdst : o.dst = none)
    (hx : chkPO x x' = true) (hy : chkPO y y' = true) (hi : P.info? t = some i) (hin : i.size = n) (hn : 0 < n) {s' : PS} (hs : pstep o.dst s (.store n x' y' av) = some s') : Does P o O A0 w0 a w s' := by
  have hR := ev_R h hx
  simp only [pstep] at hs
  split at hs
  · -- a variable
    rename_i d ver off v hp hv
    have hV := evc_V h hy hv
    rw [hp] at hR
    split at hs
    · cases hs
    split at hs
    · rename_i u cs hb
      split at hs
      · rename_i hcond
        obtain ⟨rfl, hlen, hl⟩ := hcond
        obtain rfl := Option.some.inj hs
        obtain ⟨b, base, hβ, he⟩ := hR.2 (by rw [hb]) cs (.inl (by rw [hb]))
        have hB := h.boxes d
        rw [hb] at hB
        obtain ⟨b', base', hp', hown, hcs⟩ := hB
        rw [hβ] at hp'
        obtain ⟨rfl, rfl⟩ := Prod.mk.inj (Option.some.inj hp')
        obtain ⟨arr, el, hheap, hsz⟩ := hown
        obtain ⟨h1, h2, h3⟩ := hV.cells (by omega)
        have hrun := run_store_cells (P := P) (t := t) (i := i) (v := a.eval y) (off := base + off) hheap hi (by omega) (by omega)
          (fun q hq => by obtain ⟨k, hk, rfl⟩ := List.mem_iff_getElem.1 hq; have := (h3 k (by simpa using hk) (by simp at hk; omega)).oneCell (h2 _ (List.getElem_mem _)); simpa using this)
        have howned : (s.bx d).st.owned = true := by rw [hb]; rfl
        have hbr := h.change (w' := w.setRow b _) d (some (b, base)) ⟨u, .var (spl cs off v.cells)⟩ rfl rfl rfl (by rw [setRow_size]; exact Nat.le_refl _)
          (fun k hk hne => setRow_other w b k (arr.toList.take (base + off) ++ (a.eval y).cells.toList ++ arr.toList.drop (base + off + (a.eval y).cells.size)).toArray (hne _ howned hβ))
          (.inr ⟨by rw [hb], .inr ⟨hβ.symm, fun cs' _ => ⟨cs, by rw [hb]⟩, fun cs' hcs' => (by cases hcs'), fun sz es hs => (by cases hs)⟩⟩)
          (fun p _ hp => .inl ⟨howned, (b, base), hβ, by have := Option.some.inj hp; rw [← this]⟩)
          (by
            refine ⟨b, base, rfl, ⟨_, el, setRow_heap w b arr _ el _ hheap, ?_⟩, ?_⟩
            · rw [spl_length (by omega), write_size (by omega)]; exact hsz
            · refine cellsAt_write hheap hsz hcs hV (by omega) (by omega) ⟨by rw [setRow_size]; exact Nat.le_refl _, fun k hk hN => setRow_other w b k _ ?_, fun k hk hN => ?_⟩
              · exact fun e => hN (.inr ⟨d, base, howned, by rw [hβ, e]⟩)
              · rcases hN with hN | ⟨q, base', hq, hq'⟩
                · exact .inl hN
                · by_cases e : q = d
                  · subst e; simp only [if_true] at hq'; exact .inr ⟨q, base', howned, by rw [hβ]; exact hq'⟩
                  · simp only [if_neg e] at hq hq'; exact .inr ⟨q, base', hq, hq'⟩)
        refine Does.skip hdst ?_ hbr
        unfold execOp
        simp only [ho, he, Sem.run_bind, hrun, Result.andThen_ok, Sem.run_pure]
      · cases hs
    · cases hs
  · -- an element of a slice
    rename_i d ver k off v hp hv
    have hV := evc_V h hy hv
    rw [hp] at hR
    split at hs
    · cases hs
    split at hs
    · rename_i u sz es hb
      split at hs
      · rename_i e he'
        split at hs
        · rename_i hcond
          obtain ⟨rfl, hlen, hl⟩ := hcond
          obtain rfl := Option.some.inj hs
          obtain ⟨b, hβ, he⟩ := hR.2 (by rw [hb]) sz es (by rw [hb])
          have hB := h.boxes d
          rw [hb] at hB
          obtain ⟨hz, hB⟩ := hB
          rcases hB with ⟨hnone, _⟩ | ⟨b', hp', hown, hcs⟩
          · rw [hβ] at hnone; cases hnone
          rw [hβ] at hp'
          obtain ⟨rfl, _⟩ := Prod.mk.inj (Option.some.inj hp')
          obtain ⟨hk, rfl⟩ := List.getElem?_eq_some_iff.1 he'
          obtain ⟨arr, el, hheap, hsz⟩ := hown
          have hek : es[k].length = sz := hz _ (List.getElem_mem _)
          have hmul : k * sz + sz ≤ es.length * sz := by
            have : (k + 1) * sz ≤ es.length * sz := Nat.mul_le_mul_right _ hk
            rw [Nat.add_mul, Nat.one_mul] at this; exact this
          obtain ⟨h1, h2, h3⟩ := hV.cells (by omega)
          have hrun := run_store_cells (P := P) (t := t) (i := i) (v := a.eval y) (off := k * sz + off) hheap hi (by omega) (by omega)
            (fun q hq => by obtain ⟨k, hk, rfl⟩ := List.mem_iff_getElem.1 hq; have := (h3 k (by simpa using hk) (by simp at hk; omega)).oneCell (h2 _ (List.getElem_mem _)); simpa using this)
          have howned : (s.bx d).st.owned = true := by rw [hb]; rfl
          have hext : ∀ N' : Nat → Prop, (∀ q, q < w.heap.size → N' q → Nn O β s.bx q) → Ext w (Nn O β s.bx) (w.setRow b (arr.toList.take (k * sz + off) ++ (a.eval y).cells.toList ++ arr.toList.drop (k * sz + off + (a.eval y).cells.size)).toArray) N' :=
            fun N' hN' => ⟨by rw [setRow_size]; exact Nat.le_refl _, fun q hq hN => setRow_other w b q _ (fun e => hN (.inr ⟨d, 0, howned, by rw [hβ, e]⟩)), hN'⟩
          have hbr := h.change (w' := w.setRow b _) d (some (b, 0)) ⟨u, .sl sz (es.set k (spl es[k] off v.cells))⟩ rfl rfl rfl (by rw [setRow_size]; exact Nat.le_refl _)
            (fun k' hk hne => setRow_other w b k' (arr.toList.take (k * sz + off) ++ (a.eval y).cells.toList ++ arr.toList.drop (k * sz + off + (a.eval y).cells.size)).toArray (hne _ howned hβ))
            (.inr ⟨by rw [hb], .inr ⟨hβ.symm, fun cs' hcs' => (by cases hcs'), fun cs' hcs' => (by cases hcs'), fun sz' es' hs => ⟨⟨es, by rw [hb]; cases hs; rfl⟩, fun q n hq hw => by
              rw [hβ] at hq
              obtain rfl := Option.some.inj hq
              obtain ⟨arr', el', h1', h2'⟩ := hw
              rw [hheap] at h1'
              cases h1'
              exact ⟨_, el, setRow_heap w b arr _ el _ hheap, by rw [write_size (by omega)]; exact h2'⟩⟩⟩⟩)
            (fun p _ hp => .inl ⟨howned, (b, 0), hβ, by have := Option.some.inj hp; rw [← this]⟩)
            (by
              have hN' : ∀ q, q < w.heap.size → Nn O (fun i => if i = d then some (b, 0) else β i) (fun i => if i = d then ⟨u, .sl sz (es.set k (spl es[k] off v.cells))⟩ else s.bx i) q → Nn O β s.bx q := by
                intro q hq hN
                rcases hN with hN | ⟨r, base', hr, hr'⟩
                · exact .inl hN
                · by_cases e : r = d
                  · subst e; simp only [if_true] at hr'; exact .inr ⟨r, base', howned, by rw [hβ]; exact hr'⟩
                  · simp only [if_neg e] at hr hr'; exact .inr ⟨r, base', hr, hr'⟩
              refine ⟨?_, .inr ⟨b, rfl, ⟨_, el, setRow_heap w b arr _ el _ hheap, ?_⟩, ?_⟩⟩
              · intro e he
                rcases List.mem_or_eq_of_mem_set he with he | rfl
                · exact hz e he
                · rw [spl_length (by omega)]; exact hek
              · rw [write_size (by omega), List.length_set]; exact hsz
              · intro j hj
                have hj' : j < es.length := by simpa using hj
                have hjm : j * sz + sz ≤ es.length * sz := by
                  have : (j + 1) * sz ≤ es.length * sz := Nat.mul_le_mul_right _ hj'
                  rw [Nat.add_mul, Nat.one_mul] at this; exact this
                by_cases e : j = k
                · subst e
                  simp only [List.getElem_set_self]
                  exact cellsAt_write hheap (by omega) (hcs j hj') hV (by omega) (by omega) (hext _ hN')
                · simp only [List.getElem_set_ne (Ne.symm e)]
                  have hc := hcs j hj'
                  have hjl : es[j].length = sz := hz _ (List.getElem_mem _)
                  refine ⟨hc.1, fun m hm => ?_⟩
                  obtain ⟨u', hu, hU⟩ := hc.2 m hm
                  refine ⟨u', ?_, hU.ext (hext _ hN')⟩
                  have hu' : arr[j * sz + m]? = some u' := by simpa [World.cell?, hheap] using hu
                  have hcell : (w.setRow b (arr.toList.take (k * sz + off) ++ (a.eval y).cells.toList ++ arr.toList.drop (k * sz + off + (a.eval y).cells.size)).toArray).cell? ⟨b, j * sz + m, none⟩ =
                      (arr.toList.take (k * sz + off) ++ (a.eval y).cells.toList ++ arr.toList.drop (k * sz + off + (a.eval y).cells.size))[j * sz + m]? := by
                    simp [World.cell?, setRow_heap w b arr _ el _ hheap]
                  rw [hcell]
                  rcases Nat.lt_or_gt_of_ne e with hlt | hgt
                  · have : (j + 1) * sz ≤ k * sz := Nat.mul_le_mul_right _ hlt
                    rw [Nat.add_mul, Nat.one_mul] at this
                    rw [List.append_assoc, List.getElem?_append_left (by simp; omega)]
                    simp only [List.getElem?_take, Array.getElem?_toList]
                    rw [if_pos (by omega)]
                    exact hu'
                  · have : (k + 1) * sz ≤ j * sz := Nat.mul_le_mul_right _ hgt
                    rw [Nat.add_mul, Nat.one_mul] at this
                    rw [List.getElem?_append_right (by simp; omega)]
                    simp only [List.length_append, List.length_take, Array.length_toList, List.getElem?_drop, Array.getElem?_toList]
                    rw [show k * sz + off + (a.eval y).cells.size + (j * sz + m - (min (k * sz + off) arr.size + (a.eval y).cells.size)) = j * sz + m by omega]
                    exact hu')
          refine Does.skip hdst ?_ hbr
          unfold execOp
          simp only [ho, he, Sem.run_bind, hrun, Result.andThen_ok, Sem.run_pure]
        · cases hs
      · cases hs
    · cases hs
  · cases hs
end
end Go.Pl
/-
  '==' OF VALUES THAT LIE FLAT: whole numbers, bools, strings, structs and arrays of them. My own work.
-/
namespace Go.Pl
open Go
set_option linter.unusedVariables false
/-- the fields lie one behind the other from 'o' on: what their cells are -/
def fieldsShape (P : Program) (sh : TypeId → Option (List LK)) : Nat → List Field → Option (List LK)
  | _, [] => some []
  | o, f :: fs => match sh f.type with
    | some l => if f.name ≠ "_" ∧ f.offset = o ∧ l.length = P.cellsOf f.type then (fieldsShape P sh (o + l.length) fs).map (l ++ ·) else none
    | none => none
def repShape (l : List LK) : Nat → List LK
  | 0 => []
  | n + 1 => l ++ repShape l n
def shapeOf (P : Program) : Nat → TypeId → Option (List LK)
  | 0, _ => none
  | d + 1, t => match P.underlying t with
    | some .bool => some [.b]
    | some (.int _) => some [.i]
    | some .string => some [.s]
    | some (.struct fs) => if P.stoodInHeld t then none else fieldsShape P (shapeOf P d) 0 fs.toList
    | some (.array n e) => match shapeOf P d e with
      | some l => if l.length = P.cellsOf e then some (repShape l n) else none
      | none => none
    | _ => none
theorem shEq_append : ∀ {l m : List LK} {a b c d : List CV} {r : Bool}, a.length = l.length → c.length = l.length → shEq (l ++ m) (a ++ b) (c ++ d) = some r →
    ∃ x y, shEq l a c = some x ∧ shEq m b d = some y ∧ r = (x && y)
  | [], m, [], b, [], d, r, _, _, h => ⟨true, r, rfl, h, rfl⟩
  | [], m, _ :: _, b, _, d, r, hl, _, _ => by simp at hl
  | [], m, [], b, _ :: _, d, r, _, hl, _ => by simp at hl
  | _ :: _, m, [], b, _, d, r, hl, _, _ => by simp at hl
  | _ :: _, m, _ :: _, b, [], d, r, _, hl, _ => by simp at hl
  | k :: l, m, p :: a, b, q :: c, d, r, hl, hl', h => by
    have step : ∀ {z : Bool}, (shEq (l ++ m) (a ++ b) (c ++ d)).map (z && ·) = some r → ∃ x y, (shEq l a c).map (z && ·) = some x ∧ shEq m b d = some y ∧ r = (x && y) := by
      intro z h
      cases hs : shEq (l ++ m) (a ++ b) (c ++ d) with
      | none => rw [hs] at h; cases h
      | some u =>
        rw [hs] at h
        obtain ⟨x, y, hx, hy, rfl⟩ := shEq_append (by simpa using hl) (by simpa using hl') hs
        exact ⟨z && x, y, by rw [hx]; rfl, hy, by rw [← Option.some.inj h, Bool.and_assoc]⟩
    cases k <;> cases p <;> simp only [List.cons_append, shEq] at h ⊢ <;> (try (cases h; done)) <;> cases q <;> simp only [shEq] at h ⊢ <;> (try (cases h; done))
    · split at h
      · rename_i hk; simp only [if_pos hk]; exact step h
      · cases h
    · exact step h
    · exact step h
/-- cells that read as closed cells -/
structure Reads (w : World) (N : Nat → Prop) (xs : Array Value) (cs : List CV) : Prop where
  len : xs.size = cs.length
  get : ∀ (i : Nat) (h1 : i < xs.size) (h2 : i < cs.length), V w N xs[i] cs[i]
theorem Reads.extract {w : World} {N : Nat → Prop} {xs : Array Value} {cs : List CV} (h : Reads w N xs cs) (o n : Nat) (hn : o + n ≤ cs.length) :
    Reads w N (xs.extract o (o + n)) ((cs.drop o).take n) := by
  have hl := h.len
  refine ⟨by simp; omega, fun i h1 h2 => ?_⟩
  have := h.get (o + i) (by simp at h1 h2; omega) (by simp at h2; omega)
  simpa using this
section
variable {P : Program} {w : World} {N : Nat → Prop}
theorem part_leaf {t : TypeId} {d : TypeDesc} (hu : P.underlying t = some d) (hd : d.isRow = false) {xs : Array Value} {o : Nat} (ho : o < xs.size) :
    (part t xs o).run P w = .ok xs[o] w := by
  have hagg : (isAgg t).run P w = .ok false w := by
    unfold isAgg
    rw [Sem.run_bind, run_underlying hu w]
    cases d <;> simp_all [TypeDesc.isRow]
  simp [part, Sem.run_bind, hagg, ho]
theorem part_row {t : TypeId} {d : TypeDesc} (hu : P.underlying t = some d) (hd : d.isRow = true) {i : TypeInfo} (hi : P.info? t = some i) {xs : Array Value} {o : Nat} :
    (part t xs o).run P w = .ok (.agg (xs.extract o (o + P.cellsOf t))) w := by
  have hagg : (isAgg t).run P w = .ok true w := by
    unfold isAgg
    rw [Sem.run_bind, run_underlying hu w]
    cases d <;> simp_all [TypeDesc.isRow]
  simp [part, Sem.run_bind, hagg, sizeOf, typeInfo, hi, Program.cellsOf]
theorem leaf_one {cs : List CV} {o : Nat} (ho : o + 1 ≤ cs.length) : (cs.drop o).take 1 = [cs[o]] := by
  rw [List.take_one, List.head?_drop, List.getElem?_eq_getElem (by omega)]; rfl
theorem cellsOf_info {t : TypeId} (h : P.cellsOf t ≠ 0) : ∃ i, P.info? t = some i := by
  unfold Program.cellsOf at h
  cases hi : P.info? t with
  | none => simp [hi] at h
  | some i => exact ⟨i, rfl⟩
/-- '==' at type 't' of the cells from 'o' on -/
def EqAt (P : Program) (w : World) (N : Nat → Prop) (d : Nat) (t : TypeId) (sh : List LK) : Prop :=
  ∀ (D : Nat), d ≤ D → ∀ (xs ys : Array Value) (cs ds : List CV) (o : Nat) (r : Bool), Reads w N xs cs → Reads w N ys ds → o + sh.length ≤ cs.length → o + sh.length ≤ ds.length →
    shEq sh ((cs.drop o).take sh.length) ((ds.drop o).take sh.length) = some r →
    ∃ u v, (part t xs o).run P w = .ok u w ∧ (part t ys o).run P w = .ok v w ∧ (Op.equalIn D t u v).run P w = .ok r w
theorem drop_take_split (cs : List CV) (o n m : Nat) : (cs.drop o).take (n + m) = (cs.drop o).take n ++ (cs.drop (o + n)).take m := by
  rw [List.take_add, List.drop_drop]
theorem eqFields_run {d D : Nat} (hD : d ≤ D) {xs ys : Array Value} {cs ds : List CV} (hx : Reads w N xs cs) (hy : Reads w N ys ds)
    (ih : ∀ t sh, shapeOf P d t = some sh → sh.length = P.cellsOf t → EqAt P w N d t sh) : ∀ (fs : List Field) (o : Nat) (sh : List LK), fieldsShape P (shapeOf P d) o fs = some sh →
    ∀ r, o + sh.length ≤ cs.length → o + sh.length ≤ ds.length → shEq sh ((cs.drop o).take sh.length) ((ds.drop o).take sh.length) = some r → (Op.eqFields D xs ys fs).run P w = .ok r w
  | [], o, sh, h, r, _, _, hr => by
    obtain rfl := Option.some.inj h
    simp [shEq] at hr
    subst hr
    rfl
  | f :: fs, o, sh, h, r, hc, hd, hr => by
    simp only [fieldsShape] at h
    split at h
    · rename_i l hl
      split at h
      · rename_i hcond
        obtain ⟨hname, hoff, hlen⟩ := hcond
        cases hrest : fieldsShape P (shapeOf P d) (o + l.length) fs with
        | none => rw [hrest] at h; cases h
        | some m =>
          rw [hrest] at h
          obtain rfl := Option.some.inj h
          simp only [List.length_append] at hc hd hr
          rw [drop_take_split, drop_take_split] at hr
          obtain ⟨x, y, hxx, hyy, rfl⟩ := shEq_append (by simp; omega) (by simp; omega) hr
          obtain ⟨u, v, hu, hv, he⟩ := ih f.type l hl hlen D hD xs ys cs ds o x hx hy (by omega) (by omega) hxx
          have hrec := eqFields_run hD hx hy ih fs (o + l.length) m hrest y (by omega) (by omega) hyy
          simp only [Op.eqFields, hname, ne_eq, not_false_eq_true, if_true, Sem.run_bind, hoff, hu, hv, he, Result.andThen_ok]
          cases x
          · simp
          · simpa using hrec
      · cases h
    · cases h
theorem repShape_length (l : List LK) (n : Nat) : (repShape l n).length = n * l.length := by
  induction n with
  | zero => simp [repShape]
  | succ n ih => simp [repShape, ih, Nat.add_mul]; omega
theorem eqItems_run {d D : Nat} (hD : d ≤ D) {e : TypeId} {l : List LK} (hl : l.length = P.cellsOf e) (ih : EqAt P w N d e l) {xs ys : Array Value} {cs ds : List CV} (hx : Reads w N xs cs) (hy : Reads w N ys ds) :
    ∀ (n k : Nat) (r : Bool), k * l.length + n * l.length ≤ cs.length → k * l.length + n * l.length ≤ ds.length →
    shEq (repShape l n) ((cs.drop (k * l.length)).take (n * l.length)) ((ds.drop (k * l.length)).take (n * l.length)) = some r → (Op.eqItems D e (P.cellsOf e) xs ys (List.range' k n)).run P w = .ok r w
  | 0, k, r, _, _, hr => by
    simp [repShape, shEq] at hr
    subst hr
    rfl
  | n + 1, k, r, hc, hd, hr => by
    rw [Nat.add_mul, Nat.one_mul, Nat.add_comm (n * l.length) l.length] at hc hd hr
    rw [drop_take_split, drop_take_split] at hr
    obtain ⟨x, y, hxx, hyy, rfl⟩ := shEq_append (l := l) (m := repShape l n) (by simp; omega) (by simp; omega) hr
    obtain ⟨u, v, hu, hv, he⟩ := ih D hD xs ys cs ds (k * l.length) x hx hy (by omega) (by omega) hxx
    have hk : k * l.length + l.length = (k + 1) * l.length := by rw [Nat.add_mul, Nat.one_mul]
    have hrec := eqItems_run hD hl ih hx hy n (k + 1) y (by omega) (by omega) (by rw [← hk]; exact hyy)
    simp only [List.range'_succ, Op.eqItems, Sem.run_bind, ← hl, hu, hv, he, Result.andThen_ok]
    rw [← hl] at hrec
    cases x
    · simp
    · simpa using hrec
theorem shape_info {d : Nat} {t : TypeId} {l : List LK} (h : shapeOf P d t = some l) : ∃ i, P.info? t = some i := by
  cases d with
  | zero => cases h
  | succ d =>
    cases hu : P.underlying t with
    | none => simp [shapeOf, hu] at h
    | some dd => exact info_of_underlying hu
theorem eq_part : ∀ (d : Nat) (t : TypeId) (sh : List LK), shapeOf P d t = some sh → sh.length = P.cellsOf t → EqAt P w N d t sh := by
  intro d
  induction d with
  | zero => intro t sh h; cases h
  | succ d ih =>
    intro t sh h hsz D hD xs ys cs ds o r hx hy hc hd' hr
    obtain ⟨D, rfl⟩ : ∃ D', D = D' + 1 := ⟨D - 1, by omega⟩
    simp only [shapeOf] at h
    have leaf : ∀ dd k, P.underlying t = some dd → dd.isRow = false → sh = [k] →
        (∀ (u v : Value) (c e : CV), V w N u c → V w N v e → shEq [k] [c] [e] = some r → (Op.equalIn (D + 1) t u v).run P w = .ok r w) →
        ∃ u v, (part t xs o).run P w = .ok u w ∧ (part t ys o).run P w = .ok v w ∧ (Op.equalIn (D + 1) t u v).run P w = .ok r w := by
      intro dd k hu hdd h1 hq
      subst h1
      simp only [List.length_singleton] at hc hd' hr
      have hxs : o < xs.size := by rw [hx.len]; omega
      have hys : o < ys.size := by rw [hy.len]; omega
      refine ⟨_, _, part_leaf hu hdd hxs, part_leaf hu hdd hys, ?_⟩
      rw [leaf_one hc, leaf_one hd'] at hr
      exact hq _ _ _ _ (hx.get o hxs (by omega)) (hy.get o hys (by omega)) hr
    split at h
    · rename_i hu
      refine leaf _ _ hu rfl (Option.some.inj h).symm fun u v c e hU hV hb => ?_
      cases c <;> cases e <;> simp only [shEq, Option.map_some, Bool.and_true] at hb <;> (try (cases hb; done))
      obtain rfl := Option.some.inj hb
      cases hU; cases hV
      exact run_equalIn_bool' w D t _ _ hu
    · rename_i k hu
      refine leaf _ _ hu rfl (Option.some.inj h).symm fun u v c e hU hV hb => ?_
      cases c <;> cases e <;> simp only [shEq, Option.map_some, Bool.and_true] at hb <;> (try (cases hb; done))
      split at hb
      · rename_i hk
        subst hk
        obtain rfl := Option.some.inj hb
        cases hU; cases hV
        exact run_equalIn_int w D t _ k _ _ hu
      · cases hb
    · rename_i hu
      refine leaf _ _ hu rfl (Option.some.inj h).symm fun u v c e hU hV hb => ?_
      cases c <;> cases e <;> simp only [shEq, Option.map_some, Bool.and_true] at hb <;> (try (cases hb; done))
      obtain rfl := Option.some.inj hb
      cases hU; cases hV
      exact run_equalIn_string w D t _ _ hu
    · rename_i fs hu
      split at h
      · cases h
      · rename_i hst
        have hst : P.stoodInHeld t = false := by simpa using hst
        obtain ⟨i, hi⟩ := info_of_underlying hu
        refine ⟨_, _, part_row hu rfl hi, part_row hu rfl hi, ?_⟩
        have hf : P.fieldsOf t = fs := by simp [Program.fieldsOf, hu]
        rw [run_equalIn_struct w D t _ _ (by rw [hf]; exact hu) hst, hf]
        rw [← hsz]
        refine eqFields_run (d := d) (by omega) (hx.extract o sh.length hc) (hy.extract o sh.length hd') (fun t sh h1 h2 => ih t sh h1 h2) fs.toList 0 sh h r (by simp; omega) (by simp; omega) ?_
        simpa [List.take_take] using hr
    · rename_i n e hu
      split at h
      · rename_i l hl
        split at h
        · rename_i hle
          obtain rfl := Option.some.inj h
          obtain ⟨i, hi⟩ := info_of_underlying hu
          refine ⟨_, _, part_row hu rfl hi, part_row hu rfl hi, ?_⟩
          obtain ⟨i', hi'⟩ := shape_info hl
          rw [run_equalIn_array w D _ _ hu hi', ← hsz, List.range_eq_range']
          rw [repShape_length] at hc hd' hr ⊢
          refine eqItems_run (d := d) (by omega) hle (ih e l hl hle) (hx.extract o _ hc) (hy.extract o _ hd') n 0 r (by simp; omega) (by simp; omega) ?_
          simpa [List.take_take] using hr
        · cases h
      · cases h
    · cases h
end
end Go.Pl
/-
  EACH OPERATION, GOES ON: numbers, parts, addresses, literals. My own work.
-/
namespace Go.Pl
open Go
set_option linter.unusedVariables false
section
variable {O A0 : Nat → Prop} {w0 w : World} {β : Bt} {s : PS} {a : Act} {P : Program}
theorem ok_un {o : Oper} {op : UnOp} {t : TypeId} {x : Operand} {y : PO} (ho : o.op = .unOp op t x) (h : Sim O w0 A0 β s (tmf a) w) (hd : dstOk o.dst a.tmps.size) (hc : chkPO x y = true) {s' : PS}
    (hs : pstep o.dst s (.un op y) = some s') : Does P o O A0 w0 a w s' := by
  simp only [pstep] at hs
  split at hs
  · rename_i c hy
    have hV := evc_V h hc hy
    cases hu : unC op c with
    | none => rw [hu] at hs; cases hs
    | some r =>
      rw [hu] at hs
      obtain rfl := Option.some.inj hs
      unfold unC at hu
      split at hu
      · obtain rfl := Option.some.inj hu
        refine Does.val h hd (v := .bool _) ?_ (V.bool _)
        unfold execOp
        simp only [ho, V.bool_inv hV, Op.unary, Sem.run_bind, Sem.run_pure, Result.andThen_ok]
      · obtain rfl := Option.some.inj hu
        refine Does.val h hd (v := .int _ _) ?_ (V.int _ _)
        unfold execOp
        simp only [ho, V.int_inv hV, Op.unary, Op.intArith, Sem.run_bind, Sem.run_pure, Result.andThen_ok]
      · cases hu
  · cases hs
theorem run_binOp {op : BinOp} {t : TypeId} {u v : Value} {x y z : CV} {N : Nat → Prop} (hx : V w N u x) (hy : V w N v y) (hb : binC op x y = some z)
    (px py : Operand) : ∃ r, (do eqGuard op t px py u v; binOp op t u v : Sem Value).run P w = .ok r w ∧ V w N r z := by
  unfold binC at hb
  split at hb
  · rename_i k a k' b
    unfold shl at hb
    split at hb
    · rename_i hc
      obtain rfl := Option.some.inj hb
      refine ⟨_, ?_, V.int _ _⟩
      simp only [V.int_inv hx, V.int_inv hy, eqGuard, binOp, Op.shift, Sem.run_bind]
      simp [show ¬ b < 0 by omega, Nat.min_eq_left hc.2]
    · cases hb
  · rename_i k a k' b
    unfold shr at hb
    split at hb
    · rename_i hc
      obtain rfl := Option.some.inj hb
      refine ⟨_, ?_, V.int _ _⟩
      simp only [V.int_inv hx, V.int_inv hy, eqGuard, binOp, Op.shift, Sem.run_bind]
      simp [show ¬ b < 0 by omega, Nat.min_eq_left hc.2]
    · cases hb
  all_goals first
    | (rename_i k a k' b
       split at hb
       · rename_i hc
         obtain rfl := Option.some.inj hb
         first
           | (obtain rfl := hc
              refine ⟨_, ?_, V.int _ _⟩
              simp only [V.int_inv hx, V.int_inv hy, eqGuard, binOp, Op.intArith, Op.intBits, Sem.run_bind]
              simp
              done)
           | (obtain rfl := hc
              refine ⟨_, ?_, V.bool _⟩
              simp only [V.int_inv hx, V.int_inv hy, eqGuard, binOp, Op.intCmp, Sem.run_bind]
              simp [bne]
              done)
           | (obtain ⟨rfl, hc⟩ := hc
              refine ⟨_, ?_, V.int _ _⟩
              simp only [V.int_inv hx, V.int_inv hy, eqGuard, binOp, Op.intDiv, Sem.run_bind]
              simp [hc]
              done)
       · cases hb)
    | (obtain rfl := Option.some.inj hb
       refine ⟨_, ?_, V.bool _⟩
       simp only [V.str_inv hx, V.str_inv hy, eqGuard, binOp, Op.stringOp, Sem.run_bind]
       simp
       done)
    | (cases hb; done)
theorem ok_bin {o : Oper} {op : BinOp} {t t' : TypeId} {x y : Operand} {x' y' : PO} (ho : o.op = .binOp op t x y t') (h : Sim O w0 A0 β s (tmf a) w) (hd : dstOk o.dst a.tmps.size) (hx : chkPO x x' = true) (hy : chkPO y y' = true)
    {s' : PS} (hs : pstep o.dst s (.bin op x' y') = some s') : Does P o O A0 w0 a w s' := by
  simp only [pstep] at hs
  split at hs
  · rename_i u v hu hv
    cases hb : binC op u v with
    | none => rw [hb] at hs; cases hs
    | some z =>
      rw [hb] at hs
      obtain rfl := Option.some.inj hs
      obtain ⟨r, hr, hV⟩ := run_binOp (P := P) (t := t) (evc_V h hx hu) (evc_V h hy hv) hb x y
      refine Does.val h hd (v := r) ?_ hV
      unfold execOp
      simp only [ho, Sem.run_bind] at hr ⊢
      simp only [hr, Result.andThen_ok, Sem.run_pure]
  · cases hs
theorem shEq_length : ∀ {sh : List LK} {cs ds : List CV} {r : Bool}, shEq sh cs ds = some r → cs.length = sh.length ∧ ds.length = sh.length
  | [], [], [], _, _ => ⟨rfl, rfl⟩
  | [], [], _ :: _, _, h => by simp [shEq] at h
  | [], _ :: _, _, _, h => by simp [shEq] at h
  | _ :: _, [], _, _, h => by simp [shEq] at h
  | _ :: _, _ :: _, [], _, h => by simp [shEq] at h
  | k :: sh, p :: cs, q :: ds, r, h => by
    have step : ∀ {z : Bool}, (shEq sh cs ds).map (z && ·) = some r → (p :: cs).length = (k :: sh).length ∧ (q :: ds).length = (k :: sh).length := by
      intro z h
      cases hs : shEq sh cs ds with
      | none => rw [hs] at h; cases h
      | some u => have := shEq_length hs; simp [this.1, this.2]
    cases k <;> cases p <;> (try (simp [shEq] at h; done)) <;> cases q <;> (try (simp [shEq] at h; done)) <;> simp only [shEq] at h
    · split at h
      · exact step h
      · cases h
    · exact step h
    · exact step h
/-- '==' as the code has it: rows, or bools -/
theorem run_eqs {ag : Bool} {sh : List LK} {t : TypeId} {N : Nat → Prop} {u v : Value} {x y : CV} {r : Bool} (hsh : shapeOf P 50 t = some sh) (hlen : sh.length = P.cellsOf t) (hg : P.eqGuardType P.depth t = false)
    (hag : (match P.underlying t with | some d => d.isRow | none => false) = ag) (hb : ag = false → sh = [.b])
    (hx : V w N u x) (hy : V w N v y) (hr : eqC ag sh x y = some r) (neq : Bool) (px py : Operand) :
    (do eqGuard (if neq then .neq else .eql) t px py u v; binOp (if neq then .neq else .eql) t u v : Sem Value).run P w = .ok (.bool (if neq then !r else r)) w := by
  have hE := eq_part (P := P) (w := w) (N := N) 50 t sh hsh hlen 10000 (by omega)
  cases ag with
  | true =>
    obtain ⟨cs, ds, rfl, rfl, hr⟩ : ∃ cs ds, x = .agg cs ∧ y = .agg ds ∧ shEq sh cs ds = some r := by
      cases x <;> (try (simp [eqC] at hr; done))
      cases y <;> (try (simp [eqC] at hr; done))
      exact ⟨_, _, rfl, rfl, hr⟩
    cases hx with
    | agg xs _ hl1 _ hV1 =>
    cases hy with
    | agg ys _ hl2 _ hV2 =>
    have hl := shEq_length hr
    obtain ⟨u', v', hu, hv, he⟩ := hE xs ys cs ds 0 r ⟨hl1, hV1⟩ ⟨hl2, hV2⟩ (by omega) (by omega) (by
      rw [List.drop_zero, List.drop_zero, List.take_of_length_le (by omega), List.take_of_length_le (by omega)]; exact hr)
    cases hut : P.underlying t with
    | none => rw [hut] at hag; cases hag
    | some dd =>
      rw [hut] at hag
      obtain ⟨i, hi⟩ := info_of_underlying hut
      rw [part_row hut hag hi] at hu hv
      have hcx : xs.extract 0 (0 + P.cellsOf t) = xs := by rw [← hlen]; apply Array.ext <;> simp; omega
      have hcy : ys.extract 0 (0 + P.cellsOf t) = ys := by rw [← hlen]; apply Array.ext <;> simp; omega
      rw [hcx] at hu
      rw [hcy] at hv
      cases hu
      cases hv
      cases neq
      · simp only [Bool.false_eq_true, if_false, Sem.run_bind, run_eqGuard_agg w _ t px py xs ys hg, Result.andThen_ok, run_eql_struct, he]
      · simp only [if_true, Sem.run_bind, run_eqGuard_agg w _ t px py xs ys hg, Result.andThen_ok, run_neq_struct, he]
  | false =>
    obtain rfl := hb rfl
    simp only [eqC] at hr
    cases x <;> (try (simp [shEq] at hr; done))
    cases y <;> (try (simp [shEq] at hr; done))
    rename_i p q
    simp only [shEq, Option.map_some, Bool.and_true] at hr
    obtain rfl := Option.some.inj hr
    obtain rfl := V.bool_inv hx
    obtain rfl := V.bool_inv hy
    have one : ∀ b : Bool, Reads w N #[.bool b] [.bool b] := fun b => by
      refine ⟨rfl, fun i h1 h2 => ?_⟩
      obtain rfl : i = 0 := by simp at h1; omega
      exact V.bool b
    obtain ⟨u', v', hu, hv, he⟩ := hE #[.bool p] #[.bool q] [.bool p] [.bool q] 0 (p == q) (one p) (one q) (by simp) (by simp) (by simp [shEq])
    cases hut : P.underlying t with
    | none => simp [shapeOf, hut] at hsh
    | some dd =>
      rw [hut] at hag
      rw [part_leaf hut hag (by simp)] at hu hv
      cases hu
      cases hv
      cases neq
      · simp only [Bool.false_eq_true, if_false, eqGuard, binOp, Sem.run_bind, Op.equal, Op.maxDepth]
        simp only [List.getElem_toArray, List.getElem_cons_zero] at he
        simp [he]
      · simp only [if_true, eqGuard, binOp, Sem.run_bind, Op.equal, Op.maxDepth]
        simp only [List.getElem_toArray, List.getElem_cons_zero] at he
        simp [he]
theorem ok_eqs {o : Oper} {t t' : TypeId} {x y : Operand} {x' y' : PO} {neq ag : Bool} {sh : List LK} (ho : o.op = .binOp (if neq then .neq else .eql) t x y t') (h : Sim O w0 A0 β s (tmf a) w) (hd : dstOk o.dst a.tmps.size)
    (hx : chkPO x x' = true) (hy : chkPO y y' = true) (hsh : shapeOf P 50 t = some sh) (hlen : sh.length = P.cellsOf t) (hg : P.eqGuardType P.depth t = false)
    (hag : (match P.underlying t with | some d => d.isRow | none => false) = ag) (hb : ag = false → sh = [.b]) {s' : PS} (hs : pstep o.dst s (.eqs neq ag sh x' y') = some s') : Does P o O A0 w0 a w s' := by
  simp only [pstep] at hs
  split at hs
  · rename_i u v hu hv
    cases hq : eqC ag sh u v with
    | none => rw [hq] at hs; cases hs
    | some r =>
      rw [hq] at hs
      obtain rfl := Option.some.inj hs
      have := run_eqs hsh hlen hg hag hb (evc_V h hx hu) (evc_V h hy hv) hq neq x y
      refine Does.val h hd (v := .bool (if neq then !r else r)) ?_ (V.bool _)
      unfold execOp
      simp only [ho, Sem.run_bind] at this ⊢
      simp only [this, Result.andThen_ok, Sem.run_pure]
  · cases hs
theorem ok_conv {o : Oper} {src dst : TypeId} {x : Operand} {y : PO} {k k0 : IntKind} (ho : o.op = .convert src dst x) (h : Sim O w0 A0 β s (tmf a) w) (hd : dstOk o.dst a.tmps.size) (hc : chkPO x y = true)
    (hu0 : P.underlying src = some (.int k0)) (hu : P.underlying dst = some (.int k)) {s' : PS} (hs : pstep o.dst s (.conv k y) = some s') : Does P o O A0 w0 a w s' := by
  simp only [pstep] at hs
  split at hs
  · rename_i k' n hy
    obtain rfl := Option.some.inj hs
    have hV := evc_V h hc hy
    refine Does.val h hd (v := .int k (k.wrap n)) ?_ (V.int _ _)
    unfold execOp
    simp only [ho, V.int_inv hV, convert, Sem.run_bind, run_underlying hu0, run_underlying hu, Result.andThen_ok, Conv.intToInt, Sem.run_pure]
  · cases hs
theorem CellsAt_ptr {N : Nat → Prop} {b off n : Nat} {cs : List CV} (h : CellsAt w N b off cs) (hn : n ≤ cs.length) : CellsAt w N b off (cs.take n) :=
  ⟨fun c hc => h.1 c (List.mem_of_mem_take hc), fun j hj => by
    have hj' : j < cs.length := by simp at hj; omega
    obtain ⟨v, hv, hV⟩ := h.2 j hj'
    exact ⟨v, hv, by simpa using hV⟩⟩
/-- an address that moves on by 'k' cells -/
theorem move_addr (h : Sim O w0 A0 β s (tmf a) w) {v : Value} {pv pv' : PV} {k : Nat} (hR : R w (Nn O β s.bx) β s.bx v pv)
    (hp : (∃ cs, pv = .rp cs ∧ k ≤ cs.length ∧ pv' = .rp (cs.drop k)) ∨ (∃ d e o, pv = .ptr d e o ∧ pv' = .ptr d e (o + k)) ∨ (∃ d e i o, pv = .sp d e i o ∧ pv' = .sp d e i (o + k)))
    (hv : ∀ b off, v = .pointer (some ⟨b, off, none⟩) → True) :
    ∀ v', (∀ b off, v = .pointer (some ⟨b, off, none⟩) → v' = .pointer (some ⟨b, off + k, none⟩)) → R w (Nn O β s.bx) β s.bx v' pv' := by
  intro v' hv'
  rcases hp with ⟨cs, rfl, hk, rfl⟩ | ⟨d, e, o, rfl, rfl⟩ | ⟨d, e, i, o, rfl, rfl⟩
  · obtain ⟨b, off, he, hb, hN, hcs⟩ := hR
    exact ⟨b, off + k, hv' b off he, hb, hN, hcs.drop k⟩
  · refine ⟨hR.1, fun hv cs hs => ?_⟩
    obtain ⟨b, base, hβ, he⟩ := hR.2 hv cs hs
    exact ⟨b, base, hβ, by rw [hv' _ _ he, Nat.add_assoc]⟩
  · refine ⟨hR.1, fun hv sz es hs => ?_⟩
    obtain ⟨b, hβ, he⟩ := hR.2 hv sz es hs
    exact ⟨b, hβ, by rw [hv' _ _ he, Nat.add_assoc]⟩
end
end Go.Pl

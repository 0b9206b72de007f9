/-
  WHAT A PLAIN OPERATION READS AND WRITES, GOES ON. My own work.
-/
import Derived.Test.YtcmejdkjfekoeaaPlLoc
namespace Go.Pl
set_option linter.unusedVariables false
set_option linter.unusedSimpArgs false
section
variable {C : CallP} {dst : Option Nat} {s s' : PS}

theorem loc_fad {o : Nat} {x : PO} (hs : pstep dst s (.fad o x) = some s') : ∃ v wb, LocK C dst (.fad o x) s s' v wb := by
  have hev : ∀ u : PS, (∀ t ∈ opReads (.fad o x), u.t t = s.t t) → u.ev x = s.ev x := fun u hu => ev_agree hu x (by simp [opds])
  simp only [pstep] at hs
  split at hs
  · rename_i cs hx
    split at hs
    · rename_i hc
      refine ⟨_, nob, LocK.put (by intros; simp) (Option.some.inj hs).symm (fun u hu _ => by simp only [pstep, hev u hu, hx]; rw [if_pos hc]) fun e ver hr _ => ?_⟩
      simp [ref, key, hx, refOf] at hr
    · cases hs
  · rename_i d ver off hx
    have hr : ref (.fad o x) s = some (d, ver) := by simp [ref, key, hx, refOf]
    split at hs
    · rename_i q cs hb
      split at hs
      · rename_i hc
        refine ⟨_, nob, LocK.put (by intros; simp) (Option.some.inj hs).symm (fun u hu hab => ?_) fun e ver' hr' _ => ?_⟩
        · obtain ⟨cs', hb'⟩ := kind_var ((hab.1 d ver hr).1 rfl) hb
          simp only [pstep, hev u hu, hx, hb']; rw [if_pos hc]
        · rw [hr] at hr'; cases hr'; rw [hb]; exact ⟨hc, by simp⟩
      · cases hs
    · cases hs
  · rename_i d ver i off hx
    have hr : ref (.fad o x) s = some (d, ver) := by simp [ref, key, hx, refOf]
    split at hs
    · rename_i q sz es hb
      split at hs
      · rename_i hc
        refine ⟨_, nob, LocK.put (by intros; simp) (Option.some.inj hs).symm (fun u hu hab => ?_) fun e ver' hr' _ => ?_⟩
        · obtain ⟨cs', hb'⟩ := kind_sl ((hab.1 d ver hr).1 rfl) hb
          simp only [pstep, hev u hu, hx, hb']; rw [if_pos hc]
        · rw [hr] at hr'; cases hr'; rw [hb]; exact ⟨hc, by simp⟩
      · cases hs
    · cases hs
  · cases hs

theorem loc_nilc {x : PO} (hs : pstep dst s (.nilc x) = some s') : ∃ v wb, LocK C dst (.nilc x) s s' v wb := by
  have hev : ∀ u : PS, (∀ t ∈ opReads (.nilc x), u.t t = s.t t) → u.ev x = s.ev x := fun u hu => ev_agree hu x (by simp [opds])
  simp only [pstep] at hs
  split at hs
  · rename_i d ver off hx
    have hr : ref (.nilc x) s = some (d, ver) := by simp [ref, key, hx, refOf]
    split at hs
    · rename_i q cs hb
      split at hs
      · rename_i hc
        refine ⟨_, nob, LocK.put (by intros; simp) (Option.some.inj hs).symm (fun u hu hab => ?_) fun e ver' hr' _ => ?_⟩
        · obtain ⟨cs', hb'⟩ := kind_var ((hab.1 d ver hr).1 rfl) hb
          simp only [pstep, hev u hu, hx, hb']; rw [if_pos hc]
        · rw [hr] at hr'; cases hr'; rw [hb]; exact ⟨hc, by simp⟩
      · cases hs
    · cases hs
  · rename_i cs hx
    refine ⟨_, nob, LocK.put (by intros; simp) (Option.some.inj hs).symm (fun u hu _ => by simp only [pstep, hev u hu, hx]) fun e ver hr _ => ?_⟩
    simp [ref, key, hx, refOf] at hr
  · rename_i d ver i off hx
    have hr : ref (.nilc x) s = some (d, ver) := by simp [ref, key, hx, refOf]
    split at hs
    · rename_i q sz es hb
      split at hs
      · rename_i hc
        refine ⟨_, nob, LocK.put (by intros; simp) (Option.some.inj hs).symm (fun u hu hab => ?_) fun e ver' hr' _ => ?_⟩
        · obtain ⟨cs', hb'⟩ := kind_sl ((hab.1 d ver hr).1 rfl) hb
          simp only [pstep, hev u hu, hx, hb']; rw [if_pos hc]
        · rw [hr] at hr'; cases hr'; rw [hb]; exact ⟨hc, by simp⟩
      · cases hs
    · cases hs
  · cases hs

theorem loc_iaA {len sz : Nat} {x y : PO} (hs : pstep dst s (.iaA len sz x y) = some s') : ∃ v wb, LocK C dst (.iaA len sz x y) s s' v wb := by
  have hev : ∀ u : PS, (∀ t ∈ opReads (.iaA len sz x y), u.t t = s.t t) → u.ev x = s.ev x ∧ u.evc y = s.evc y := fun u hu => ⟨ev_agree hu x (by simp [opds]), evc_agree (ev_agree hu y (by simp [opds]))⟩
  simp only [pstep] at hs
  split at hs
  · rename_i k n hy
    split at hs
    · rename_i hn
      split at hs
      · rename_i cs hx
        split at hs
        · rename_i hc
          refine ⟨_, nob, LocK.put (by intros; simp) (Option.some.inj hs).symm (fun u hu _ => by simp only [pstep, (hev u hu).1, (hev u hu).2, hx, hy]; rw [if_pos hn, if_pos hc]) fun e ver hr _ => ?_⟩
          simp [ref, key, hx, refOf] at hr
        · cases hs
      · rename_i d ver off hx
        have hr : ref (.iaA len sz x y) s = some (d, ver) := by simp [ref, key, hx, refOf]
        split at hs
        · rename_i q cs hb
          split at hs
          · rename_i hc
            refine ⟨_, nob, LocK.put (by intros; simp) (Option.some.inj hs).symm (fun u hu hab => ?_) fun e ver' hr' _ => ?_⟩
            · obtain ⟨cs', hb'⟩ := kind_var ((hab.1 d ver hr).1 rfl) hb
              simp only [pstep, (hev u hu).1, (hev u hu).2, hx, hy, hb']; rw [if_pos hn, if_pos hc]
            · rw [hr] at hr'; cases hr'; rw [hb]; exact ⟨hc, by simp⟩
          · cases hs
        · cases hs
      · rename_i d ver i off hx
        have hr : ref (.iaA len sz x y) s = some (d, ver) := by simp [ref, key, hx, refOf]
        split at hs
        · rename_i q sz' es hb
          split at hs
          · rename_i hc
            refine ⟨_, nob, LocK.put (by intros; simp) (Option.some.inj hs).symm (fun u hu hab => ?_) fun e ver' hr' _ => ?_⟩
            · obtain ⟨cs', hb'⟩ := kind_sl ((hab.1 d ver hr).1 rfl) hb
              simp only [pstep, (hev u hu).1, (hev u hu).2, hx, hy, hb']; rw [if_pos hn, if_pos hc]
            · rw [hr] at hr'; cases hr'; rw [hb]; exact ⟨hc, by simp⟩
          · cases hs
        · cases hs
      · cases hs
    · cases hs
  · cases hs

theorem loc_iaS {sz : Nat} {x y : PO} (hs : pstep dst s (.iaS sz x y) = some s') : ∃ v wb, LocK C dst (.iaS sz x y) s s' v wb := by
  have hev : ∀ u : PS, (∀ t ∈ opReads (.iaS sz x y), u.t t = s.t t) → u.ev x = s.ev x ∧ u.evc y = s.evc y := fun u hu => ⟨ev_agree hu x (by simp [opds]), evc_agree (ev_agree hu y (by simp [opds]))⟩
  simp only [pstep] at hs
  split at hs
  · rename_i k n hy
    split at hs
    · rename_i es hx
      split at hs
      · rename_i hn
        split at hs
        · rename_i hc
          refine ⟨_, nob, LocK.put (by intros; simp) (Option.some.inj hs).symm (fun u hu _ => by simp only [pstep, (hev u hu).1, (hev u hu).2, hx, hy]; rw [if_pos hn, if_pos hc]) fun e ver hr _ => ?_⟩
          simp [ref, key, hx, refOf] at hr
        · cases hs
      · cases hs
    · rename_i d ver off len hx
      have hr : ref (.iaS sz x y) s = some (d, ver) := by simp [ref, key, hx, refOf]
      split at hs
      · rename_i q sz' es hb
        split at hs
        · rename_i hc
          refine ⟨_, nob, LocK.put (by intros; simp) (Option.some.inj hs).symm (fun u hu hab => ?_) fun e ver' hr' _ => ?_⟩
          · obtain ⟨cs', hb'⟩ := kind_sl ((hab.1 d ver hr).1 rfl) hb
            simp only [pstep, (hev u hu).1, (hev u hu).2, hx, hy, hb']; rw [if_pos hc]
          · rw [hr] at hr'; cases hr'; rw [hb]; exact ⟨hc.1, by simp⟩
        · cases hs
      · cases hs
    · cases hs
  · cases hs

theorem loc_len {x : PO} (hs : pstep dst s (.len x) = some s') : ∃ v wb, LocK C dst (.len x) s s' v wb := by
  have hev : ∀ u : PS, (∀ t ∈ opReads (.len x), u.t t = s.t t) → u.ev x = s.ev x := fun u hu => ev_agree hu x (by simp [opds])
  simp only [pstep] at hs
  split at hs
  · rename_i es hx
    refine ⟨_, nob, LocK.put (by intros; simp) (Option.some.inj hs).symm (fun u hu _ => by simp only [pstep, hev u hu, hx]) fun e ver hr _ => ?_⟩
    simp [ref, key, hx, refOf] at hr
  · rename_i d ver off len hx
    have hr : ref (.len x) s = some (d, ver) := by simp [ref, key, hx, refOf]
    split at hs
    · rename_i q sz' es hb
      split at hs
      · rename_i hc
        refine ⟨_, nob, LocK.put (by intros; simp) (Option.some.inj hs).symm (fun u hu hab => ?_) fun e ver' hr' _ => ?_⟩
        · obtain ⟨cs', hb'⟩ := kind_sl ((hab.1 d ver hr).1 rfl) hb
          simp only [pstep, hev u hu, hx, hb']; rw [if_pos hc]
        · rw [hr] at hr'; cases hr'; rw [hb]; exact ⟨hc, by simp⟩
      · cases hs
    · cases hs
  · cases hs

/-- a new box for the slot 'd' -/
theorem loc_new {k : PK} {d : Nat} {b : Nat → Box} {pv : Nat → PV} (hver : ∀ v, v < (b v).ver) (hdst : dst = some d) (hk : isNew k = true) (hcl : cls k = .pure) (hc : ∀ m f l, k ≠ .call m f l)
    (hs : s' = (s.box d (b (s.bx d).ver)).put d (pv (s.bx d).ver)) (ha : ∀ u : PS, (∀ t ∈ opReads k, u.t t = s.t t) → pstep dst u k = some ((u.box d (b (u.bx d).ver)).put d (pv (u.bx d).ver))) : ∃ v wb, LocK C dst k s s' v wb := by
  subst hdst
  rw [upd_box] at hs
  refine ⟨_, _, hs, fun u hu hab => ?_, fun i b' hi => ?_, fun e ver hr h => absurd hcl h⟩
  · have := hab.2 hk d rfl
    refine wpK_step hc ?_
    rw [ha u hu, upd_box, this]
  · simp only [oneb] at hi
    split at hi
    · rename_i e; subst e; cases hi; exact .inr (.inr ⟨hk, rfl, hver _⟩)
    · cases hi

theorem loc_app {sz : Nat} {x y : PO} {own : Bool} (hs : pstep dst s (.app sz x y own) = some s') : ∃ v wb, LocK C dst (.app sz x y own) s s' v wb := by
  have hev : ∀ u : PS, (∀ t ∈ opReads (.app sz x y own), u.t t = s.t t) → u.ev x = s.ev x ∧ u.evc y = s.evc y := fun u hu => ⟨ev_agree hu x (by simp [opds]), evc_agree (ev_agree hu y (by simp [opds]))⟩
  simp only [pstep] at hs
  split at hs
  · rename_i e d ver off len ys hx hy
    have hr : ref (.app sz x y own) s = some (d, ver) := by simp [ref, key, hx, refOf]
    split at hs
    · rename_i q sz' es hb
      split at hs
      · rename_i hc
        have hlive : ∀ e ver', ref (.app sz x y own) s = some (e, ver') → cls (.app sz x y own) ≠ .pure → (s.bx e).ver = ver' ∧ (s.bx e).st ≠ .dead := by
          intro e ver' hr' _
          rw [hr] at hr'; cases hr'; rw [hb]; exact ⟨hc.1, by simp⟩
        split at hs
        · rename_i ho
          subst ho
          have he := (Option.some.inj hs).symm
          have e2 : ∀ u : PS, u.bx e = s.bx e → ((u.box d ⟨q + 1, .dead⟩).box e ⟨(u.bx e).ver + 1, .sl sz (es ++ ys)⟩).put e (.osl e ((u.bx e).ver + 1) 0 (es ++ ys).length) =
              upd (some e) (.osl e ((s.bx e).ver + 1) 0 (es ++ ys).length) (fun i => if i = e then some ⟨(s.bx e).ver + 1, .sl sz (es ++ ys)⟩ else if i = d then some ⟨q + 1, .dead⟩ else none) u := by
            intro u hu
            rw [hu]
            simp only [PS.put, PS.box, upd, PS.mk.injEq]
            refine ⟨by funext i; simp, ?_⟩
            funext i
            by_cases h1 : i = e
            · simp [h1]
            · by_cases h2 : i = d
              · subst h2; simp [h1]
              · simp [h1, h2]
          rw [e2 s rfl] at he
          refine ⟨_, _, he, fun u hu hab => ?_, fun i b hi => ?_, hlive⟩
          · have h1 := (hab.1 d ver hr).2 (by simp [cls])
            have h2 := hab.2 rfl e rfl
            refine wpK_step (by intros; simp) ?_
            simp only [pstep, (hev u hu).1, (hev u hu).2, hx, hy, h1, hb]; rw [if_pos hc, if_pos trivial, e2 u h2]
          · split at hi
            · rename_i e'; subst e'; cases hi; exact .inr (.inr ⟨rfl, rfl, Nat.lt_succ_self _⟩)
            · split at hi
              · rename_i e'; subst e'; exact .inr (.inl ⟨rfl, _, hr⟩)
              · cases hi
        · rename_i ho
          have ho : own = false := by simpa using ho
          subst ho
          have he := (Option.some.inj hs).symm
          rw [upd_box] at he
          refine ⟨_, _, he, fun u hu hab => ?_, fun i b hi => ?_, hlive⟩
          · have h1 := (hab.1 d ver hr).2 (by simp [cls])
            refine wpK_step (by intros; simp) ?_
            simp only [pstep, (hev u hu).1, (hev u hu).2, hx, hy, h1, hb]; rw [if_pos hc, ← upd_box]; simp
          · simp only [oneb] at hi
            split at hi
            · rename_i e'; subst e'; exact .inr (.inl ⟨rfl, _, hr⟩)
            · cases hi
      · cases hs
    · cases hs
  · cases hs

theorem loc_step {k : PK} (hc : ∀ m f l, k ≠ .call m f l) (hst : (∃ n x y av, k = .store n x y av) → dst = none) (hs : pstep dst s k = some s') : ∃ v wb, LocK C dst k s s' v wb := by
  cases k
  case load f n x av => exact loc_load hs
  case store n x y av => exact loc_store (hst ⟨_, _, _, _, rfl⟩) hs
  case fad o x => exact loc_fad hs
  case nilc x => exact loc_nilc hs
  case iaA len sz x y => exact loc_iaA hs
  case iaS sz x y => exact loc_iaS hs
  case len x => exact loc_len hs
  case app sz x y own => exact loc_app hs
  case own0 sz =>
    cases hd : dst with
    | none => simp [pstep, hd] at hs
    | some d =>
      subst hd
      simp only [pstep] at hs
      exact loc_new (b := fun v => ⟨v + 1, .sl sz []⟩) (pv := fun v => .osl d (v + 1) 0 0) (fun v => Nat.lt_succ_self v) rfl rfl rfl (by intros; simp) (Option.some.inj hs).symm (fun u _ => by simp only [pstep])
  case alloc z =>
    cases hd : dst with
    | none => simp [pstep, hd] at hs
    | some d =>
      subst hd
      simp only [pstep] at hs
      exact loc_new (b := fun v => ⟨v + 1, .var z⟩) (pv := fun v => .ptr d (v + 1) 0) (fun v => Nat.lt_succ_self v) rfl rfl rfl (by intros; simp) (Option.some.inj hs).symm (fun u _ => by simp only [pstep])
  case box n x =>
    simp only [pstep] at hs
    split at hs
    · rename_i d v hx
      split at hs
      · rename_i hn
        refine loc_new (b := fun q => ⟨q + 1, .var v.cells⟩) (pv := fun q => .ptr d (q + 1) 0) (fun v => Nat.lt_succ_self v) rfl rfl rfl (by intros; simp) (Option.some.inj hs).symm (fun u hu => ?_)
        simp only [pstep, evc_agree (ev_agree hu x (by simp [opds])), hx]; rw [if_pos hn]
      · cases hs
    · cases hs
  case bsl sz len zc ps own =>
    cases own with
    | false => exact loc_pure rfl rfl hc hs
    | true =>
      simp only [pstep] at hs
      split at hs
      · rename_i l hl
        split at hs
        · rename_i hb; cases hb
        · rename_i es d hf _
          refine loc_new (b := fun q => ⟨q + 1, .sl sz es⟩) (pv := fun q => .osl d (q + 1) 0 es.length) (fun v => Nat.lt_succ_self v) rfl rfl rfl (by intros; simp) (Option.some.inj hs).symm (fun u hu => ?_)
          have hp := partsS_agree (s := s) (u := u) (l := ps) (ev_agree hu)
          simp only [pstep, hp, hl, hf]
        · cases hs
      · cases hs
  case call m f l => exact absurd rfl (hc _ _ _)
  all_goals exact loc_pure rfl rfl hc hs

theorem loc_call {m : Bool} {f : FuncId} {l : List PO} {K : PS → Prop} (h : wpCall C m f l dst s K) : ∃ s', (∃ v wb, LocK C dst (.call m f l) s s' v wb) ∧ K s' := by
  unfold wpCall at h
  split at h
  · split at h
    · rename_i cs hcs
      obtain ⟨r, hC, hK⟩ := h
      refine ⟨_, ⟨.c r, nob, by rw [upd_putO], fun u hu _ => ?_, Wb.none, fun e ver hr h => absurd rfl h⟩, hK⟩
      have := evcs_agree (l := l) (s := s) (u := u) (ev_agree hu)
      simp only [wpK, wpCall, this, hcs]
      exact ⟨r, hC, by rw [upd_putO]⟩
    · exact h.elim
  · rename_i x l
    have hev : ∀ u : PS, (∀ t ∈ opReads (.call true f (x :: l)), u.t t = s.t t) → u.ev x = s.ev x ∧ evcs u l = evcs s l := fun u hu => ⟨ev_agree hu x (by simp [opds]), evcs_agree fun y hy => ev_agree hu y (by simp [opds, hy])⟩
    split at h
    · rename_i d ver off len cs hx hcs
      have hr : ref (.call true f (x :: l)) s = some (d, ver) := by simp [ref, key, hx, refOf]
      split at h
      · rename_i v sz es hb
        obtain ⟨hcond, r, hrd, hC, hK⟩ := h
        have hlive : ∀ e ver', ref (.call true f (x :: l)) s = some (e, ver') → cls (.call true f (x :: l)) ≠ .pure → (s.bx e).ver = ver' ∧ (s.bx e).st ≠ .dead := by
          intro e ver' hr' _
          rw [hr] at hr'; cases hr'; rw [hb]; exact ⟨hcond.1, by simp⟩
        have again : ∀ u : PS, (∀ t ∈ opReads (.call true f (x :: l)), u.t t = s.t t) → AgB (.call true f (x :: l)) dst s u → wpK C ⟨dst, .call true f (x :: l), none⟩ u (· = (u.box d ⟨v + 1, .dead⟩).putR dst r) := by
          intro u hu hab
          have h1 := (hab.1 d ver hr).2 (by simp [cls])
          simp only [wpK, wpCall, (hev u hu).1, (hev u hu).2, hx, hcs, h1, hb]
          exact ⟨hcond, r, hrd, hC, rfl⟩
        cases r with
        | c r =>
          refine ⟨_, ⟨.c r, oneb d ⟨v + 1, .dead⟩, ?_, fun u hu hab => ?_, fun i b hi => ?_, hlive⟩, hK⟩
          · cases dst with
            | none => simp only [PS.putR, PS.putO]; rw [upd_boxn]; simp [upd]
            | some e => simp only [PS.putR, PS.putO]; rw [upd_box]
          · have := again u hu hab
            have e : (u.box d ⟨v + 1, .dead⟩).putR dst (.c r) = upd dst (.c r) (oneb d ⟨v + 1, .dead⟩) u := by
              cases dst with
              | none => simp only [PS.putR, PS.putO]; rw [upd_boxn]; simp [upd]
              | some e => simp only [PS.putR, PS.putO]; rw [upd_box]
            rw [e] at this
            exact this
          · simp only [oneb] at hi
            split at hi
            · rename_i e'; subst e'; exact .inr (.inl ⟨rfl, _, hr⟩)
            · cases hi
        | own sz' zs =>
          have hsome := hrd _ _ rfl
          cases hd : dst with
          | none => rw [hd] at hsome; cases hsome
          | some e =>
            subst hd
            have e2 : ∀ u : PS, u.bx e = s.bx e → (u.box d ⟨v + 1, .dead⟩).putR (some e) (.own sz' zs) =
                upd (some e) (.osl e (((s.box d ⟨v + 1, .dead⟩).bx e).ver + 1) 0 zs.length) (fun i => if i = e then some ⟨((s.box d ⟨v + 1, .dead⟩).bx e).ver + 1, .sl sz' zs⟩ else if i = d then some ⟨v + 1, .dead⟩ else none) u := by
              intro u hu
              have hh : ((u.box d ⟨v + 1, .dead⟩).bx e) = ((s.box d ⟨v + 1, .dead⟩).bx e) := by simp only [PS.box, hu]
              simp only [PS.putR, hh]
              simp only [PS.put, PS.box, upd, PS.mk.injEq]
              refine ⟨by funext i; simp, ?_⟩
              funext i
              by_cases h1 : i = e
              · simp [h1]
              · rw [if_neg h1, if_neg h1]
                by_cases h2 : i = d
                · rw [if_pos h2, if_pos h2]; rfl
                · rw [if_neg h2, if_neg h2]; rfl
            refine ⟨_, ⟨_, _, e2 s rfl, fun u hu hab => ?_, fun i b hi => ?_, hlive⟩, hK⟩
            · have := again u hu hab
              rw [e2 u (hab.2 rfl e rfl)] at this
              exact this
            · split at hi
              · rename_i e'; subst e'; cases hi; exact .inr (.inr ⟨rfl, rfl, by simp only [PS.box]; split <;> simp_all <;> omega⟩)
              · split at hi
                · rename_i e'; subst e'; exact .inr (.inl ⟨rfl, _, hr⟩)
                · cases hi
      · exact h.elim
    · rename_i d ver off cs hx hcs
      have hr : ref (.call true f (x :: l)) s = some (d, ver) := by simp [ref, key, hx, refOf]
      split at h
      · rename_i v c0 hb
        obtain ⟨hcond, r, c1, hC, hK⟩ := h
        have e2 : ∀ u : PS, (u.box d ⟨v, .var c1⟩).putO dst (.c r) = upd dst (.c r) (oneb d ⟨v, .var c1⟩) u := by
          intro u
          cases dst with
          | none => simp only [PS.putO]; rw [upd_boxn]; simp [upd]
          | some e => simp only [PS.putO]; rw [upd_box]
        refine ⟨_, ⟨.c r, oneb d ⟨v, .var c1⟩, e2 s, fun u hu hab => ?_, fun i b hi => ?_, fun e ver' hr' _ => ?_⟩, hK⟩
        · have h1 := (hab.1 d ver hr).2 (by simp [cls])
          simp only [wpK, wpCall, (hev u hu).1, (hev u hu).2, hx, hcs, h1, hb]
          exact ⟨hcond, r, c1, hC, by rw [e2 u]⟩
        · simp only [oneb] at hi
          split at hi
          · rename_i e'; subst e'; exact .inr (.inl ⟨rfl, _, hr⟩)
          · cases hi
        · rw [hr] at hr'; cases hr'; rw [hb]; exact ⟨hcond.1, by simp⟩
      · exact h.elim
    · exact h.elim
  · exact h.elim
end
end Go.Pl

/-
  A STATEMENT WHOSE ORDER IS OPEN: its plain steps, in whatever order its edges let, come to the same. My own work.
-/
import Derived.Test.YtcmejdkjfekoeaaPlLoc2
import Derived.Test.YtcmejdkjfekoeaaPlRun
namespace Go.Pl
open Go
set_option linter.unusedVariables false

/-- what an operation reads, its guard too -/
def reads (p : POp) : List Nat := opReads p.k ++ (match p.g with | some (g, _) => [g] | none => [])

def conf : Cl → Cl → Bool
  | .mw, .mr | .mw, .mw | .mr, .mw => true
  | .x, .pure | .pure, .x => false
  | .x, _ | _, .x => true
  | _, _ => false

/-- two operations that may change places -/
def okPair (p q : POp) : Bool :=
  (match p.dst with | some d => !(reads q).contains d && decide (q.dst ≠ some d) | none => true) && (match q.dst with | some d => !(reads p).contains d | none => true) && !conf (cls p.k) (cls q.k)

structure LocG (C : CallP) (p : POp) (s s' : PS) (v : PV) (wb : Nat → Option Box) (act : Bool) : Prop where
  eq : s' = upd p.dst v wb s
  again : ∀ u, (∀ t ∈ reads p, u.t t = s.t t) → (act = true → AgB p.k p.dst s u) → wpG C p u (· = upd p.dst v wb u)
  wb1 : act = true → Wb p.k p.dst s wb
  wb0 : act = false → wb = nob
  live : act = true → ∀ e ver, ref p.k s = some (e, ver) → cls p.k ≠ .pure → (s.bx e).ver = ver ∧ (s.bx e).st ≠ .dead

theorem locG {C : CallP} {p : POp} {s : PS} {K : PS → Prop} (hst : (∃ n x y av, p.k = .store n x y av) → p.dst = none) (h : wpG C p s K) : ∃ s' v wb act, LocG C p s s' v wb act ∧ K s' := by
  obtain ⟨dst, k, g⟩ := p
  have hk : wpK C ⟨dst, k, none⟩ s K → ∃ s' v wb, LocK C dst k s s' v wb ∧ K s' := by
    intro h
    cases k
    case call m f l =>
      simp only [wpK] at h
      obtain ⟨s', ⟨v, wb, hl⟩, hK⟩ := loc_call h
      exact ⟨s', v, wb, hl, hK⟩
    all_goals
      simp only [wpK] at h
      split at h
      · rename_i s' hs
        obtain ⟨v, wb, hl⟩ := loc_step (C := C) (by intros; simp) hst hs
        exact ⟨s', v, wb, hl, h⟩
      · exact h.elim
  have wK : ∀ (gg : Option (Nat × Bool)) (u : PS) (K : PS → Prop), wpK C ⟨dst, k, gg⟩ u K = wpK C ⟨dst, k, none⟩ u K := by
    intro gg u K; cases k <;> rfl
  cases g with
  | none =>
    simp only [wpG] at h
    obtain ⟨s', v, wb, hl, hK⟩ := hk h
    refine ⟨s', v, wb, true, ⟨hl.eq, fun u hu hab => ?_, fun _ => hl.wb, fun h => (by cases h), fun _ => hl.live⟩, hK⟩
    simp only [wpG]
    exact hl.again u (fun t ht => hu t (by simp [reads, ht])) (hab rfl)
  | some gw =>
    obtain ⟨g, w⟩ := gw
    simp only [wpG] at h
    split at h
    · rename_i b hb
      by_cases hbw : b = w
      · have h1 := h.1 hbw
        rw [wK] at h1
        obtain ⟨s', v, wb, hl, hK⟩ := hk h1
        refine ⟨s', v, wb, true, ⟨hl.eq, fun u hu hab => ?_, fun _ => hl.wb, fun h => (by cases h), fun _ => hl.live⟩, hK⟩
        have hg : u.t g = .c (.bool b) := by rw [hu g (by simp [reads])]; exact hb
        simp only [wpG, hg]
        refine ⟨fun _ => ?_, fun hne => absurd hbw hne⟩
        rw [wK]
        exact hl.again u (fun t ht => hu t (by simp [reads, ht])) (hab rfl)
      · refine ⟨_, .undef, nob, false, ⟨by rw [upd_putO], fun u hu _ => ?_, fun h => (by cases h), fun _ => rfl, fun h => (by cases h)⟩, h.2 hbw⟩
        have hg : u.t g = .c (.bool b) := by rw [hu g (by simp [reads])]; exact hb
        simp only [wpG, hg]
        exact ⟨fun e => absurd e hbw, fun _ => by rw [upd_putO]⟩
    · rename_i hb
      refine ⟨_, .undef, nob, false, ⟨by rw [upd_putO], fun u hu _ => ?_, fun h => (by cases h), fun _ => rfl, fun h => (by cases h)⟩, h⟩
      have hg : u.t g = .undef := by rw [hu g (by simp [reads])]; exact hb
      simp only [wpG, hg]
      rw [upd_putO]
    · exact h.elim

/-- no reference is younger than its box -/
def WF (s : PS) : Prop := ∀ i e ver, refOf (s.t i) = some (e, ver) → ver ≤ (s.bx e).ver

theorem Sim.wf {O A0 : Nat → Prop} {w0 w : World} {β : Bt} {s : PS} {tm : Nat → Value} (h : Sim O w0 A0 β s tm w) : WF s := by
  intro i e ver hr
  have := h.temps i
  cases hp : s.t i <;> rw [hp] at this hr <;> simp only [refOf, Option.some.injEq, Prod.mk.injEq, reduceCtorEq] at hr
  all_goals (obtain ⟨rfl, rfl⟩ := hr; exact this.1)

theorem kindEq.symm {b b' : Box} (h : kindEq b b') : kindEq b' b := by
  obtain ⟨v, st⟩ := b
  obtain ⟨v', st'⟩ := b'
  obtain ⟨h1, h2⟩ := h
  refine ⟨h1.symm, ?_⟩
  cases st <;> cases st' <;> simp_all

theorem ref_key {k : PK} {s : PS} {e ver : Nat} (h : ref k s = some (e, ver)) : cls k ≠ .pure := by
  intro hc
  cases k <;> simp only [ref, key, cls, reduceCtorEq, Option.bind_none, Option.bind_some] at h hc
  rename_i m f l
  cases m <;> cases l <;> simp [key] at h hc

theorem ref_agree {k : PK} {s u : PS} (h : ∀ t ∈ opReads k, u.t t = s.t t) : ref k u = ref k s := by
  unfold ref
  cases hk : key k with
  | none => rfl
  | some x =>
    have hx : x ∈ opds k := by
      cases k <;> simp only [key, reduceCtorEq, Option.some.injEq] at hk <;> (try (subst hk; simp [opds]))
      rename_i m f l
      cases m <;> cases l <;> simp at hk
      subst hk; simp [opds]
    simp only [Option.bind_some, ev_agree h x hx]

/-- a box that an operation names is no older than the state says -/
theorem ref_wf {k : PK} {s : PS} (hw : WF s) {e ver : Nat} (h : ref k s = some (e, ver)) : ver ≤ (s.bx e).ver := by
  unfold ref at h
  cases hk : key k with
  | none => rw [hk] at h; cases h
  | some x =>
    rw [hk] at h
    cases x with
    | t i => exact hw i e ver h
    | k v => cases h

theorem upd_t (dst : Option Nat) (v : PV) (wb : Nat → Option Box) (u : PS) {t : Nat} (h : dst ≠ some t) : (upd dst v wb u).t t = u.t t := by
  simp only [upd]; rw [if_neg (fun e => h e.symm)]

/-- TWO OPERATIONS CHANGE PLACES. -/
theorem swap {C : CallP} {p q : POp} {s : PS} {K : PS → Prop} (hp : (∃ n x y av, p.k = .store n x y av) → p.dst = none) (hq : (∃ n x y av, q.k = .store n x y av) → q.dst = none) (hok : okPair p q = true) (hw : WF s)
    (dp : isNew p.k = true → ∀ d, p.dst = some d → (s.bx d).st = .dead) (dq : isNew q.k = true → ∀ d, q.dst = some d → (s.bx d).st = .dead)
    (h : wpG C p s fun s1 => wpG C q s1 K) : wpG C q s fun s1 => wpG C p s1 K := by
  obtain ⟨s1, v1, wb1, a1, L1, h1⟩ := locG hp h
  obtain ⟨s2, v2, wb2, a2, L2, hK⟩ := locG hq h1
  simp only [okPair, Bool.and_eq_true, Bool.not_eq_true'] at hok
  obtain ⟨⟨hd1, hd2⟩, hconf⟩ := hok
  have n1 : ∀ t ∈ reads q, p.dst ≠ some t := by
    intro t ht e
    rw [e] at hd1
    simp only [Bool.and_eq_true, Bool.not_eq_true', List.contains_eq_mem, decide_eq_false_iff_not] at hd1
    exact hd1.1 ht
  have n2 : ∀ t ∈ reads p, q.dst ≠ some t := by
    intro t ht e
    rw [e] at hd2
    simp only [Bool.not_eq_true', List.contains_eq_mem, decide_eq_false_iff_not] at hd2
    exact hd2 ht
  have n3 : ∀ d, p.dst = some d → q.dst ≠ some d := by
    intro d e
    rw [e] at hd1
    simp only [Bool.and_eq_true, decide_eq_true_eq] at hd1
    exact hd1.2
  have hs1 := L1.eq
  have bx1 : ∀ i, s1.bx i = (wb1 i).getD (s.bx i) := fun i => by rw [hs1]; rfl
  have agq : ∀ t ∈ reads q, s.t t = s1.t t := fun t ht => by rw [hs1, upd_t _ _ _ _ (n1 t ht)]
  have refq : ref q.k s1 = ref q.k s := (ref_agree (fun t ht => agq t (by simp [reads, ht]))).symm
  -- what 'p' writes, against what 'q' looks into
  have hit1 : ∀ i b, wb1 i = some b → a1 = true ∧ ((cls p.k = .mw ∧ (∃ ver, ref p.k s = some (i, ver)) ∧ kindEq (s.bx i) b) ∨ (cls p.k = .x ∧ ∃ ver, ref p.k s = some (i, ver)) ∨ (isNew p.k = true ∧ p.dst = some i ∧ (s.bx i).ver < b.ver)) := by
    intro i b hi
    cases ha : a1 with
    | false => rw [L1.wb0 ha] at hi; cases hi
    | true => exact ⟨rfl, L1.wb1 ha i b hi⟩
  have hit2 : ∀ i b, wb2 i = some b → a2 = true ∧ ((cls q.k = .mw ∧ (∃ ver, ref q.k s1 = some (i, ver)) ∧ kindEq (s1.bx i) b) ∨ (cls q.k = .x ∧ ∃ ver, ref q.k s1 = some (i, ver)) ∨ (isNew q.k = true ∧ q.dst = some i ∧ (s1.bx i).ver < b.ver)) := by
    intro i b hi
    cases ha : a2 with
    | false => rw [L2.wb0 ha] at hi; cases hi
    | true => exact ⟨rfl, L2.wb1 ha i b hi⟩
  -- 'q' names no box that 'p' makes
  have noNew1 : a2 = true → ∀ e ver, ref q.k s1 = some (e, ver) → isNew p.k = true → p.dst ≠ some e := by
    intro ha2 e ver hr hn hde
    have hl := L2.live ha2 e ver hr (ref_key hr)
    cases hw1 : wb1 e with
    | none =>
      have : s1.bx e = s.bx e := by rw [bx1, hw1]; rfl
      rw [this, dp hn e hde] at hl
      exact hl.2 rfl
    | some b =>
      have hb1 : s1.bx e = b := by rw [bx1, hw1]; rfl
      obtain ⟨ha1, hc⟩ := hit1 e b hw1
      rcases hc with ⟨_, ⟨ver', hr'⟩, _⟩ | ⟨_, ver', hr'⟩ | ⟨_, _, hlt⟩
      · exact (L1.live ha1 e ver' hr' (ref_key hr')).2 (dp hn e hde)
      · exact (L1.live ha1 e ver' hr' (ref_key hr')).2 (dp hn e hde)
      · have := ref_wf hw (refq ▸ hr)
        rw [hb1] at hl
        omega
  have noNew2 : a1 = true → ∀ e ver, ref p.k s = some (e, ver) → isNew q.k = true → q.dst ≠ some e :=
    fun ha1 e ver hr hn hde => (L1.live ha1 e ver hr (ref_key hr)).2 (dq hn e hde)
  -- 'q' from 's'
  have Q : wpG C q s (· = upd q.dst v2 wb2 s) := by
    refine L2.again s agq fun ha2 => ⟨fun e ver hr => ?_, fun hn d hde => ?_⟩
    · cases hw1 : wb1 e with
      | none =>
        have : s1.bx e = s.bx e := by rw [bx1, hw1]; rfl
        exact ⟨fun _ => by rw [this]; exact kindEq.refl _, fun _ => this.symm⟩
      | some b =>
        have hb1 : s1.bx e = b := by rw [bx1, hw1]; rfl
        obtain ⟨ha1, hc⟩ := hit1 e b hw1
        rcases hc with ⟨hcl, hrr, hke⟩ | ⟨hcl, hrr⟩ | ⟨hn, hde, _⟩
        · rw [hcl] at hconf
          have hkr : cls q.k = .kr := by
            have := ref_key hr
            cases hq' : cls q.k <;> rw [hq'] at hconf this <;> first | rfl | (simp [conf] at hconf; done) | (exact absurd rfl this)
          exact ⟨fun _ => by rw [hb1]; exact hke.symm, fun h => absurd hkr h⟩
        · rw [hcl] at hconf
          have := ref_key hr
          cases hq' : cls q.k <;> rw [hq'] at hconf this <;> first | (simp [conf] at hconf; done) | (exact absurd rfl this)
        · exact absurd hde (noNew1 ha2 e ver hr hn)
    · cases hw1 : wb1 d with
      | none => rw [bx1, hw1]; rfl
      | some b =>
        obtain ⟨ha1, hc⟩ := hit1 d b hw1
        rcases hc with ⟨_, ⟨ver', hr'⟩, _⟩ | ⟨_, ver', hr'⟩ | ⟨_, hde', _⟩
        · exact absurd hde (noNew2 ha1 d ver' hr' hn)
        · exact absurd hde (noNew2 ha1 d ver' hr' hn)
        · exact absurd hde (n3 d hde')
  -- 'p' behind it
  have bx2 : ∀ i, (upd q.dst v2 wb2 s).bx i = (wb2 i).getD (s.bx i) := fun i => rfl
  have agp : ∀ t ∈ reads p, (upd q.dst v2 wb2 s).t t = s.t t := fun t ht => upd_t _ _ _ _ (n2 t ht)
  have Pn : wpG C p (upd q.dst v2 wb2 s) (· = upd p.dst v1 wb1 (upd q.dst v2 wb2 s)) := by
    refine L1.again _ agp fun ha1 => ⟨fun e ver hr => ?_, fun hn d hde => ?_⟩
    · cases hw2 : wb2 e with
      | none => rw [bx2, hw2]; exact ⟨fun _ => kindEq.refl _, fun _ => rfl⟩
      | some b =>
        obtain ⟨ha2, hc⟩ := hit2 e b hw2
        rcases hc with ⟨hcl, hrr, hke⟩ | ⟨hcl, hrr⟩ | ⟨hn, hde, _⟩
        · rw [hcl] at hconf
          have hkr : cls p.k = .kr := by
            have := ref_key hr
            cases hp' : cls p.k <;> rw [hp'] at hconf this <;> first | rfl | (simp [conf] at hconf; done) | (exact absurd rfl this)
          have hw1 : wb1 e = none := by
            cases hw1 : wb1 e with
            | none => rfl
            | some b' =>
              obtain ⟨_, hc'⟩ := hit1 e b' hw1
              rcases hc' with ⟨hcl', _, _⟩ | ⟨hcl', _⟩ | ⟨hn', hde', _⟩
              · rw [hkr] at hcl'; cases hcl'
              · rw [hkr] at hcl'; cases hcl'
              · exact absurd hn' (by cases hpk : p.k <;> rw [hpk] at hkr <;> simp [cls, isNew] at hkr ⊢ <;> (rename_i m _ _; cases m <;> simp [cls] at hkr))
          have e1 : s1.bx e = s.bx e := by rw [bx1, hw1]; rfl
          rw [e1] at hke
          exact ⟨fun _ => by rw [bx2, hw2]; exact hke, fun h => absurd hkr h⟩
        · rw [hcl] at hconf
          have := ref_key hr
          cases hp' : cls p.k <;> rw [hp'] at hconf this <;> first | (simp [conf] at hconf; done) | (exact absurd rfl this)
        · exact absurd hde (noNew2 ha1 e ver hr hn)
    · cases hw2 : wb2 d with
      | none => rw [bx2, hw2]; rfl
      | some b =>
        obtain ⟨ha2, hc⟩ := hit2 d b hw2
        rcases hc with ⟨_, ⟨ver', hr'⟩, _⟩ | ⟨_, ver', hr'⟩ | ⟨_, hde', _⟩
        · exact absurd hde (noNew1 ha2 d ver' hr' hn)
        · exact absurd hde (noNew1 ha2 d ver' hr' hn)
        · exact absurd hde' (n3 d hde)
  -- the two ends are one
  have disj : ∀ i, wb1 i = none ∨ wb2 i = none := by
    intro i
    cases hw1 : wb1 i with
    | none => exact .inl rfl
    | some b1 =>
      cases hw2 : wb2 i with
      | none => exact .inr rfl
      | some b2 =>
        exfalso
        obtain ⟨ha1, hc1⟩ := hit1 i b1 hw1
        obtain ⟨ha2, hc2⟩ := hit2 i b2 hw2
        have two : (cls p.k = .mw ∨ cls p.k = .x) → (cls q.k = .mw ∨ cls q.k = .x) → False := by
          rintro (h1 | h1) (h2 | h2) <;> rw [h1, h2] at hconf <;> simp [conf] at hconf
        rcases hc1 with ⟨hcl1, ⟨ver1, hr1⟩, _⟩ | ⟨hcl1, ver1, hr1⟩ | ⟨hn1, hde1, _⟩ <;> rcases hc2 with ⟨hcl2, ⟨ver2, hr2⟩, _⟩ | ⟨hcl2, ver2, hr2⟩ | ⟨hn2, hde2, _⟩
        · exact two (.inl hcl1) (.inl hcl2)
        · exact two (.inl hcl1) (.inr hcl2)
        · exact noNew2 ha1 i ver1 hr1 hn2 hde2
        · exact two (.inr hcl1) (.inl hcl2)
        · exact two (.inr hcl1) (.inr hcl2)
        · exact noNew2 ha1 i ver1 hr1 hn2 hde2
        · exact noNew1 ha2 i ver2 hr2 hn1 hde1
        · exact noNew1 ha2 i ver2 hr2 hn1 hde1
        · exact n3 i hde1 hde2
  have fin : upd p.dst v1 wb1 (upd q.dst v2 wb2 s) = s2 := by
    rw [L2.eq, hs1]
    simp only [upd, PS.mk.injEq]
    refine ⟨?_, ?_⟩
    · funext i
      by_cases e1 : some i = p.dst
      · have e2 : ¬ some i = q.dst := fun e => n3 i e1.symm e.symm
        rw [if_pos e1, if_neg e2, if_pos e1]
      · rw [if_neg e1]
        by_cases e2 : some i = q.dst
        · rw [if_pos e2, if_pos e2]
        · rw [if_neg e2, if_neg e2, if_neg e1]
    · funext i
      rcases disj i with h0 | h0 <;> rw [h0]
      · cases wb2 i <;> rfl
      · cases wb1 i <;> rfl
  refine wpG_mono (fun u hu => ?_) Q
  subst hu
  refine wpG_mono (fun u hu => ?_) Pn
  subst hu
  rw [fin]
  exact hK
end Go.Pl

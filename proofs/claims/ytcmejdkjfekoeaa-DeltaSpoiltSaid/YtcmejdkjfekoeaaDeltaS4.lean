/- Part of the proof of DeltaTells, DeltaApplies, DeltaBack, DeltaJoins, DeltaSpoilt: lemmas. -/
import Derived.Test.YtcmejdkjfekoeaaDeltaS1
import Derived.Test.YtcmejdkjfekoeaaDeltaS3
import Derived.LoopN
import Derived.ChangeArms
import Derived.ChangeOld
import Derived.OpenShut
import Derived.WideShapes
import Derived.Below
set_option linter.unusedVariables false
set_option linter.unusedSimpArgs false
/-
  ONE OPERATION OF A REGION, AS THE MODEL RUNS IT, AND THE PLAIN STEP. My own work.
-/
namespace Go.Pl
open Go
set_option linter.unusedVariables false
def chkCall (P : Program) (o : Oper) (f : FuncId) (args : List PO) : Bool :=
  match o.op with
  | .call ⟨.value (.func f'), cargs, _⟩ => decide (f' = f) && chkPOs cargs.toList args && match P.funcs[f]? with
    | some fn => decide (fn.name ≠ "runtime.NumGoroutine") && fn.body.isSome
    | none => false
  | _ => false
def chkG (ops : Array Oper) (g : Option (Nat × Bool)) (g' : Option (Nat × Bool)) : Bool :=
  match g, g' with
  | none, none => true
  | some (j, w), some (t, w') => (w == w') && decide ((ops[j]?).bind (·.dst) = some t)
  | _, _ => false
def chkP (P : Program) (n : Nat) (ops : Array Oper) (o : Oper) (p : POp) : Bool :=
  decide (o.dst = p.dst) && (match o.dst with | some d => decide (d < n) | none => true) && chkG ops o.guard p.g &&
    (match p.k with
    | .call _ f args => chkCall P o f args
    | k => chkK P o k)
section
variable {O A0 : Nat → Prop} {w0 w : World} {β : Bt} {s : PS} {a : Act} {P : Program}
theorem put_size (a : Act) (d : Option Tmp) (v : Value) : (a.put d v).tmps.size = a.tmps.size := by
  cases d <;> simp [Act.put]
theorem put_defers (a : Act) (d : Option Tmp) (v : Value) : (a.put d v).defers = a.defers := by
  cases d <;> rfl
theorem exec_call {o : Oper} {f : FuncId} {cargs : Array Operand} {tys : Array TypeId} (ho : o.op = .call ⟨.value (.func f), cargs, tys⟩) {fn : Func} (hf : P.funcs[f]? = some fn) (hn : fn.name ≠ "runtime.NumGoroutine") (hb : fn.body.isSome = true) :
    (execOp a.eval o).run P w = .ok (.enter f (cargs.map a.eval)) w := by
  unfold execOp
  simp [ho, resolve, Act.eval, Deferred.ofValue, invoke, callFunc, program, Sem.run_bind, Sem.run, hf]
  rw [if_neg hn, if_neg (by intro h; simp [h] at hb)]
theorem op_wp {ops : Array Oper} {o : Oper} {p : POp} {n : Nat} (hc : (match p.k with | .call _ f args => chkCall P o f args | k => chkK P o k) = true) (hdst : o.dst = p.dst) (hd : dstOk o.dst a.tmps.size)
    (h : Sim O w0 A0 β s (tmf a) w) {K : PS → Prop} (hw : wpK (PCallG P) p s K) {next : Act → World → Prop} {Q : Exit → Act → World → Prop}
    (hnext : ∀ β' s' v w', Sim O w0 A0 β' s' (tmf (a.put o.dst v)) w' → K s' → next (a.put o.dst v) w') : o.wp P a w next Q := by
  have plain : ∀ k, chkK P o k = true → (match pstep p.dst s k with | some s' => K s' | none => False) → o.wp P a w next Q := by
    intro k hk hs
    cases hp : pstep p.dst s k with
    | none => rw [hp] at hs; exact hs.elim
    | some s' =>
      rw [hp] at hs
      rw [← hdst] at hp
      obtain ⟨nx, v, w', β', hr, hnx, hS⟩ := chkK_ok hk h hd hp
      unfold Oper.wp
      rw [hr]
      rcases hnx with rfl | ⟨rfl, rfl⟩
      · exact hnext _ _ _ _ hS hs
      · exact hnext _ _ _ _ hS hs
  obtain ⟨pd, pk, pg⟩ := p
  simp only at hc hdst
  cases pk
  case call m f args =>
    simp only [chkCall] at hc
    split at hc <;> (try (cases hc; done))
    rename_i f' cargs tys ho
    simp only [Bool.and_eq_true, decide_eq_true_eq] at hc
    obtain ⟨⟨rfl, hargs⟩, hc⟩ := hc
    split at hc <;> (try (cases hc; done))
    rename_i fn hf
    simp only [Bool.and_eq_true, decide_eq_true_eq] at hc
    unfold Oper.wp
    rw [exec_call ho hf hc.1 hc.2]
    simp only [wpK, wpCall] at hw
    show Calls P f' (cargs.map a.eval) w _
    split at hw
    · -- all closed
      split at hw <;> (try (exact hw.elim))
      rename_i cs hcs
      obtain ⟨r, hC, hK⟩ := hw
      obtain ⟨hl, hV⟩ := evcs_V h hargs hcs
      refine (hC w _ _ _ (cargs.map a.eval) (by simpa using hl) (sim_initC h (by simpa using hl) (fun i h1 h2 => by have := hV i (by simpa using h1) h2; simpa using this))).mono ?_
      rintro e w' ⟨v, β', rfl, hS, _⟩
      obtain ⟨hS', hVr⟩ := back_C h hS
      exact hnext _ _ v _ (hS'.putO o.dst (by simpa using hd) (.c r) v hVr) (by rw [hdst]; exact hK)
    · -- the first one handed over, or lent
      rename_i x l
      obtain ⟨cl⟩ := cargs
      cases cl with
      | nil => cases hargs
      | cons cx cl =>
      simp only [chkPOs, Bool.and_eq_true] at hargs
      have hargv : (⟨cx :: cl⟩ : Array Operand).map a.eval = (a.eval cx :: cl.map a.eval).toArray := by simp
      rw [hargv]
      have hR := ev_R h hargs.1
      split at hw <;> (try (exact hw.elim))
      · rename_i d ver off len cs hx hcs
        rw [hx] at hR
        obtain ⟨hl, hV⟩ := evcs_V h hargs.2 hcs
        split at hw <;> (try (exact hw.elim))
        rename_i v sz es hb
        obtain ⟨⟨rfl, rfl, hlen⟩, r, hrd, hC, hK⟩ := hw
        have hown : (s.bx d).st.owned = true := by rw [hb]; rfl
        have hB := h.boxes d
        rw [hb] at hB
        have hH := hdr_of hR hb hlen hB
        have hinit := sim_init1 h (d0 := d) (av := .own sz es) (by rw [hb]; rfl) hown (v0 := a.eval cx) (vs := cl.map a.eval) (by simpa using hl) (fun i h1 h2 => by have := hV i (by simpa using h1) h2; simpa using this) (by
          refine ⟨Nat.le_refl _, fun _ sz2 es2 hs2 => ⟨rfl, ?_⟩⟩
          have : (initPS (AV.own sz es :: List.map AV.c cs)).bx 0 = ⟨0, .sl sz es⟩ := rfl
          rw [this] at hs2
          cases hs2
          simp only [if_true]
          rcases hH with ⟨h1, h2, h3⟩ | ⟨b, cap, h1, h2, h3, h4⟩
          · exact .inl ⟨h1, h2, by rw [h3]; rfl⟩
          · exact .inr ⟨b, cap, h1, h2, h3, h4⟩)
        refine (hC w _ _ _ _ (by simp; omega) hinit).mono ?_
        rintro e w' ⟨v', β', rfl, hS, _⟩
        cases r with
        | c r =>
          obtain ⟨hS', hVr⟩ := back_ownC h hb hS
          exact hnext _ _ v' _ (hS'.putO o.dst hd (.c r) v' hVr) (by rw [hdst]; exact hK)
        | own sz' zs =>
          cases hpd : pd with
          | none =>
            rw [hpd] at hrd
            have := hrd _ _ rfl
            cases this
          | some e =>
            rw [hpd] at hdst hK
            obtain ⟨β2, hS'⟩ := back_ownO h hb hS (hd e hdst)
            exact hnext β2 _ v' _ (by rw [hdst]; exact hS') hK
      · rename_i d ver off cs hx hcs
        rw [hx] at hR
        obtain ⟨hl, hV⟩ := evcs_V h hargs.2 hcs
        split at hw <;> (try (exact hw.elim))
        rename_i v c0 hb
        obtain ⟨⟨rfl, rfl⟩, r, c1, hC, hK⟩ := hw
        have hown : (s.bx d).st.owned = true := by rw [hb]; rfl
        obtain ⟨b, base, hβ, he⟩ := hR.2 (by rw [hb]) c0 (.inl (by rw [hb]))
        have hinit := sim_init1 h (d0 := d) (av := .io c0) (by rw [hb]; rfl) hown (v0 := a.eval cx) (vs := cl.map a.eval) (by simpa using hl) (fun i h1 h2 => by have := hV i (by simpa using h1) h2; simpa using this)
          ⟨Nat.le_refl _, fun _ cs2 hs2 => ⟨b, base, by simpa using hβ, by simpa using he⟩⟩
        refine (hC w _ _ _ _ (by simp; omega) hinit).mono ?_
        rintro e w' ⟨v', β', rfl, hS, hβ'⟩
        have hβ0 : β' 0 = β d := by have := hβ' 0 c0 rfl; simpa using this
        obtain ⟨hS', hVr⟩ := back_io h hb hS hβ0
        exact hnext _ _ v' _ (hS'.putO o.dst hd (.c r) v' hVr) (by rw [hdst]; exact hK)
    · exact hw.elim
  all_goals (simp only [wpK] at hw; exact plain _ hc hw)
end
end Go.Pl
/-
  A STATEMENT WHOSE ORDER IS OPEN: its plain steps, in whatever order its edges let, come to the same. My own work.
-/
namespace Go.Pl
open Go
set_option linter.unusedVariables false
def reads (p : POp) : List Nat := opReads p.k ++ (match p.g with | some (g, _) => [g] | none => [])
def conf : Cl → Cl → Bool
  | .mw, .mr | .mw, .mw | .mr, .mw => true
  | .x, .pure | .pure, .x => false
  | .x, _ | _, .x => true
  | _, _ => false
def apart : Option Nat → Option Nat → Bool
  | some a, some b => a != b
  | _, _ => false
def okPair (p : POp) (bp : Option Nat) (q : POp) (bq : Option Nat) : Bool :=
  (match p.dst with | some d => !(reads q).contains d && decide (q.dst ≠ some d) | none => true) && (match q.dst with | some d => !(reads p).contains d | none => true) && (!conf (cls p.k) (cls q.k) || apart bp bq)
structure LocG (C : CallP) (p : POp) (s s' : PS) (v : PV) (wb : Nat → Option Box) (act : Bool) : Prop where
  eq : s' = upd p.dst v wb s
  again : ∀ u, (∀ t ∈ reads p, u.t t = s.t t) → (act = true → AgB p.k p.dst s u) → wpG C p u (· = upd p.dst v wb u)
  wb1 : act = true → Wb p.k p.dst s wb
  wb0 : act = false → wb = nob
  live : act = true → ∀ e ver, ref p.k s = some (e, ver) → cls p.k ≠ .pure → (s.bx e).ver = ver ∧ (s.bx e).st ≠ .dead
theorem locG {C : CallP} {p : POp} {s : PS} {K : PS → Prop} (hst : (∃ n x y av, p.k = .store n x y av) → p.dst = none) (h : wpG C p s K) : ∃ s' v wb act, LocG C p s s' v wb act ∧ K s' := by
  obtain ⟨dst, k, g⟩ := p
  have hk : wpK C ⟨dst, k, none⟩ s K → ∃ s' v wb, LocK C dst k s s' v wb ∧ K s' := by
    intro h
    cases k
    case call m f l =>
      simp only [wpK] at h
      obtain ⟨s', ⟨v, wb, hl⟩, hK⟩ := loc_call h
      exact ⟨s', v, wb, hl, hK⟩
    all_goals
      simp only [wpK] at h
      split at h
      · rename_i s' hs
        obtain ⟨v, wb, hl⟩ := loc_step (C := C) (by intros; simp) hst hs
        exact ⟨s', v, wb, hl, h⟩
      · exact h.elim
  have wK : ∀ (gg : Option (Nat × Bool)) (u : PS) (K : PS → Prop), wpK C ⟨dst, k, gg⟩ u K = wpK C ⟨dst, k, none⟩ u K := by
    intro gg u K; cases k <;> rfl
  cases g with
  | none =>
    simp only [wpG] at h
    obtain ⟨s', v, wb, hl, hK⟩ := hk h
    refine ⟨s', v, wb, true, ⟨hl.eq, fun u hu hab => ?_, fun _ => hl.wb, fun h => (by cases h), fun _ => hl.live⟩, hK⟩
    simp only [wpG]
    exact hl.again u (fun t ht => hu t (by simp [reads, ht])) (hab rfl)
  | some gw =>
    obtain ⟨g, w⟩ := gw
    simp only [wpG] at h
    split at h
    · rename_i b hb
      by_cases hbw : b = w
      · have h1 := h.1 hbw
        rw [wK] at h1
        obtain ⟨s', v, wb, hl, hK⟩ := hk h1
        refine ⟨s', v, wb, true, ⟨hl.eq, fun u hu hab => ?_, fun _ => hl.wb, fun h => (by cases h), fun _ => hl.live⟩, hK⟩
        have hg : u.t g = .c (.bool b) := by rw [hu g (by simp [reads])]; exact hb
        simp only [wpG, hg]
        refine ⟨fun _ => ?_, fun hne => absurd hbw hne⟩
        rw [wK]
        exact hl.again u (fun t ht => hu t (by simp [reads, ht])) (hab rfl)
      · refine ⟨_, .undef, nob, false, ⟨by rw [upd_putO], fun u hu _ => ?_, fun h => (by cases h), fun _ => rfl, fun h => (by cases h)⟩, h.2 hbw⟩
        have hg : u.t g = .c (.bool b) := by rw [hu g (by simp [reads])]; exact hb
        simp only [wpG, hg]
        exact ⟨fun e => absurd e hbw, fun _ => by rw [upd_putO]⟩
    · rename_i hb
      refine ⟨_, .undef, nob, false, ⟨by rw [upd_putO], fun u hu _ => ?_, fun h => (by cases h), fun _ => rfl, fun h => (by cases h)⟩, h⟩
      have hg : u.t g = .undef := by rw [hu g (by simp [reads])]; exact hb
      simp only [wpG, hg]
      rw [upd_putO]
    · exact h.elim
def WF (s : PS) : Prop := ∀ i e ver, refOf (s.t i) = some (e, ver) → ver ≤ (s.bx e).ver
theorem Sim.wf {O A0 : Nat → Prop} {w0 w : World} {β : Bt} {s : PS} {tm : Nat → Value} (h : Sim O w0 A0 β s tm w) : WF s := by
  intro i e ver hr
  have := h.temps i
  cases hp : s.t i <;> rw [hp] at this hr <;> simp only [refOf, Option.some.injEq, Prod.mk.injEq, reduceCtorEq] at hr
  all_goals (obtain ⟨rfl, rfl⟩ := hr; exact this.1)
theorem kindEq.symm {b b' : Box} (h : kindEq b b') : kindEq b' b := by
  obtain ⟨v, st⟩ := b
  obtain ⟨v', st'⟩ := b'
  obtain ⟨h1, h2⟩ := h
  refine ⟨h1.symm, ?_⟩
  cases st <;> cases st' <;> simp_all
theorem ref_key {k : PK} {s : PS} {e ver : Nat} (h : ref k s = some (e, ver)) : cls k ≠ .pure := by
  intro hc
  cases k <;> simp only [ref, key, cls, reduceCtorEq, Option.bind_none, Option.bind_some] at h hc
  rename_i m f l
  cases m <;> cases l <;> simp [key] at h hc
theorem ref_agree {k : PK} {s u : PS} (h : ∀ t ∈ opReads k, u.t t = s.t t) : ref k u = ref k s := by
  unfold ref
  cases hk : key k with
  | none => rfl
  | some x =>
    have hx : x ∈ opds k := by
      cases k <;> simp only [key, reduceCtorEq, Option.some.injEq] at hk <;> (try (subst hk; simp [opds]))
      rename_i m f l
      cases m <;> cases l <;> simp at hk
      subst hk; simp [opds]
    simp only [Option.bind_some, ev_agree h x hx]
theorem ref_wf {k : PK} {s : PS} (hw : WF s) {e ver : Nat} (h : ref k s = some (e, ver)) : ver ≤ (s.bx e).ver := by
  unfold ref at h
  cases hk : key k with
  | none => rw [hk] at h; cases h
  | some x =>
    rw [hk] at h
    cases x with
    | t i => exact hw i e ver h
    | k v => cases h
theorem upd_t (dst : Option Nat) (v : PV) (wb : Nat → Option Box) (u : PS) {t : Nat} (h : dst ≠ some t) : (upd dst v wb u).t t = u.t t := by
  simp only [upd]; rw [if_neg (fun e => h e.symm)]
theorem swap {C : CallP} {p q : POp} {bp bq : Option Nat} {s : PS} {K : PS → Prop} (hp : (∃ n x y av, p.k = .store n x y av) → p.dst = none) (hq : (∃ n x y av, q.k = .store n x y av) → q.dst = none) (hok : okPair p bp q bq = true) (hw : WF s) (hcp : clm p bp s)
    (dp : isNew p.k = true → ∀ d, p.dst = some d → (s.bx d).st = .dead) (dq : isNew q.k = true → ∀ d, q.dst = some d → (s.bx d).st = .dead)
    (h : wpG C p s fun s1 => clm q bq s1 ∧ wpG C q s1 K) : clm q bq s ∧ wpG C q s fun s1 => clm p bp s1 ∧ wpG C p s1 K := by
  obtain ⟨s1, v1, wb1, a1, L1, hcq, h1⟩ := locG hp h
  obtain ⟨s2, v2, wb2, a2, L2, hK⟩ := locG hq h1
  simp only [okPair, Bool.and_eq_true, Bool.or_eq_true, Bool.not_eq_true'] at hok
  obtain ⟨⟨hd1, hd2⟩, hok⟩ := hok
  have noconf : ∀ e v v', ref p.k s = some (e, v) → ref q.k s1 = some (e, v') → conf (cls p.k) (cls q.k) = false := by
    intro e v v' h1 h2
    rcases hok with h | h
    · exact h
    · exfalso
      cases bp with
      | none => simp [apart] at h
      | some a =>
        cases bq with
        | none => simp [apart] at h
        | some b =>
          have e1 := hcp a rfl e v h1
          have e2 := hcq b rfl e v' h2
          subst e1; subst e2
          simp [apart] at h
  have n1 : ∀ t ∈ reads q, p.dst ≠ some t := by
    intro t ht e
    rw [e] at hd1
    simp only [Bool.and_eq_true, Bool.not_eq_true', List.contains_eq_mem, decide_eq_false_iff_not] at hd1
    exact hd1.1 ht
  have n2 : ∀ t ∈ reads p, q.dst ≠ some t := by
    intro t ht e
    rw [e] at hd2
    simp only [Bool.not_eq_true', List.contains_eq_mem, decide_eq_false_iff_not] at hd2
    exact hd2 ht
  have n3 : ∀ d, p.dst = some d → q.dst ≠ some d := by
    intro d e
    rw [e] at hd1
    simp only [Bool.and_eq_true, decide_eq_true_eq] at hd1
    exact hd1.2
  have hs1 := L1.eq
  have bx1 : ∀ i, s1.bx i = (wb1 i).getD (s.bx i) := fun i => by rw [hs1]; rfl
  have agq : ∀ t ∈ reads q, s.t t = s1.t t := fun t ht => by rw [hs1, upd_t _ _ _ _ (n1 t ht)]
  have refq : ref q.k s1 = ref q.k s := (ref_agree (fun t ht => agq t (by simp [reads, ht]))).symm
  -- what 'p' writes, against what 'q' looks into
  have hit1 : ∀ i b, wb1 i = some b → a1 = true ∧ ((cls p.k = .mw ∧ (∃ ver, ref p.k s = some (i, ver)) ∧ kindEq (s.bx i) b) ∨ (cls p.k = .x ∧ ∃ ver, ref p.k s = some (i, ver)) ∨ (isNew p.k = true ∧ p.dst = some i ∧ (s.bx i).ver < b.ver)) := by
    intro i b hi
    cases ha : a1 with
    | false => rw [L1.wb0 ha] at hi; cases hi
    | true => exact ⟨rfl, L1.wb1 ha i b hi⟩
  have hit2 : ∀ i b, wb2 i = some b → a2 = true ∧ ((cls q.k = .mw ∧ (∃ ver, ref q.k s1 = some (i, ver)) ∧ kindEq (s1.bx i) b) ∨ (cls q.k = .x ∧ ∃ ver, ref q.k s1 = some (i, ver)) ∨ (isNew q.k = true ∧ q.dst = some i ∧ (s1.bx i).ver < b.ver)) := by
    intro i b hi
    cases ha : a2 with
    | false => rw [L2.wb0 ha] at hi; cases hi
    | true => exact ⟨rfl, L2.wb1 ha i b hi⟩
  -- 'q' names no box that 'p' makes
  have noNew1 : a2 = true → ∀ e ver, ref q.k s1 = some (e, ver) → isNew p.k = true → p.dst ≠ some e := by
    intro ha2 e ver hr hn hde
    have hl := L2.live ha2 e ver hr (ref_key hr)
    cases hw1 : wb1 e with
    | none =>
      have : s1.bx e = s.bx e := by rw [bx1, hw1]; rfl
      rw [this, dp hn e hde] at hl
      exact hl.2 rfl
    | some b =>
      have hb1 : s1.bx e = b := by rw [bx1, hw1]; rfl
      obtain ⟨ha1, hc⟩ := hit1 e b hw1
      rcases hc with ⟨_, ⟨ver', hr'⟩, _⟩ | ⟨_, ver', hr'⟩ | ⟨_, _, hlt⟩
      · exact (L1.live ha1 e ver' hr' (ref_key hr')).2 (dp hn e hde)
      · exact (L1.live ha1 e ver' hr' (ref_key hr')).2 (dp hn e hde)
      · have := ref_wf hw (refq ▸ hr)
        rw [hb1] at hl
        omega
  have noNew2 : a1 = true → ∀ e ver, ref p.k s = some (e, ver) → isNew q.k = true → q.dst ≠ some e :=
    fun ha1 e ver hr hn hde => (L1.live ha1 e ver hr (ref_key hr)).2 (dq hn e hde)
  -- 'q' from 's'
  have Q : wpG C q s (· = upd q.dst v2 wb2 s) := by
    refine L2.again s agq fun ha2 => ⟨fun e ver hr => ?_, fun hn d hde => ?_⟩
    · cases hw1 : wb1 e with
      | none =>
        have : s1.bx e = s.bx e := by rw [bx1, hw1]; rfl
        exact ⟨fun _ => by rw [this]; exact kindEq.refl _, fun _ => this.symm⟩
      | some b =>
        have hb1 : s1.bx e = b := by rw [bx1, hw1]; rfl
        obtain ⟨ha1, hc⟩ := hit1 e b hw1
        rcases hc with ⟨hcl, hrr, hke⟩ | ⟨hcl, hrr⟩ | ⟨hn, hde, _⟩
        · obtain ⟨vr, hrr⟩ := hrr
          have hconf := noconf e vr ver hrr hr
          rw [hcl] at hconf
          have hkr : cls q.k = .kr := by
            have := ref_key hr
            cases hq' : cls q.k <;> rw [hq'] at hconf this <;> first | rfl | (simp [conf] at hconf; done) | (exact absurd rfl this)
          exact ⟨fun _ => by rw [hb1]; exact hke.symm, fun h => absurd hkr h⟩
        · obtain ⟨vr, hrr⟩ := hrr
          have hconf := noconf e vr ver hrr hr
          rw [hcl] at hconf
          have := ref_key hr
          cases hq' : cls q.k <;> rw [hq'] at hconf this <;> first | (simp [conf] at hconf; done) | (exact absurd rfl this)
        · exact absurd hde (noNew1 ha2 e ver hr hn)
    · cases hw1 : wb1 d with
      | none => rw [bx1, hw1]; rfl
      | some b =>
        obtain ⟨ha1, hc⟩ := hit1 d b hw1
        rcases hc with ⟨_, ⟨ver', hr'⟩, _⟩ | ⟨_, ver', hr'⟩ | ⟨_, hde', _⟩
        · exact absurd hde (noNew2 ha1 d ver' hr' hn)
        · exact absurd hde (noNew2 ha1 d ver' hr' hn)
        · exact absurd hde (n3 d hde')
  -- 'p' behind it
  have bx2 : ∀ i, (upd q.dst v2 wb2 s).bx i = (wb2 i).getD (s.bx i) := fun i => rfl
  have agp : ∀ t ∈ reads p, (upd q.dst v2 wb2 s).t t = s.t t := fun t ht => upd_t _ _ _ _ (n2 t ht)
  have Pn : wpG C p (upd q.dst v2 wb2 s) (· = upd p.dst v1 wb1 (upd q.dst v2 wb2 s)) := by
    refine L1.again _ agp fun ha1 => ⟨fun e ver hr => ?_, fun hn d hde => ?_⟩
    · cases hw2 : wb2 e with
      | none => rw [bx2, hw2]; exact ⟨fun _ => kindEq.refl _, fun _ => rfl⟩
      | some b =>
        obtain ⟨ha2, hc⟩ := hit2 e b hw2
        rcases hc with ⟨hcl, hrr, hke⟩ | ⟨hcl, hrr⟩ | ⟨hn, hde, _⟩
        · obtain ⟨vr, hrr⟩ := hrr
          have hconf := noconf e ver vr hr hrr
          rw [hcl] at hconf
          have hkr : cls p.k = .kr := by
            have := ref_key hr
            cases hp' : cls p.k <;> rw [hp'] at hconf this <;> first | rfl | (simp [conf] at hconf; done) | (exact absurd rfl this)
          have hw1 : wb1 e = none := by
            cases hw1 : wb1 e with
            | none => rfl
            | some b' =>
              obtain ⟨_, hc'⟩ := hit1 e b' hw1
              rcases hc' with ⟨hcl', _, _⟩ | ⟨hcl', _⟩ | ⟨hn', hde', _⟩
              · rw [hkr] at hcl'; cases hcl'
              · rw [hkr] at hcl'; cases hcl'
              · exact absurd hn' (by cases hpk : p.k <;> rw [hpk] at hkr <;> simp [cls, isNew] at hkr ⊢ <;> (rename_i m _ _; cases m <;> simp [cls] at hkr))
          have e1 : s1.bx e = s.bx e := by rw [bx1, hw1]; rfl
          rw [e1] at hke
          exact ⟨fun _ => by rw [bx2, hw2]; exact hke, fun h => absurd hkr h⟩
        · obtain ⟨vr, hrr⟩ := hrr
          have hconf := noconf e ver vr hr hrr
          rw [hcl] at hconf
          have := ref_key hr
          cases hp' : cls p.k <;> rw [hp'] at hconf this <;> first | (simp [conf] at hconf; done) | (exact absurd rfl this)
        · exact absurd hde (noNew2 ha1 e ver hr hn)
    · cases hw2 : wb2 d with
      | none => rw [bx2, hw2]; rfl
      | some b =>
        obtain ⟨ha2, hc⟩ := hit2 d b hw2
        rcases hc with ⟨_, ⟨ver', hr'⟩, _⟩ | ⟨_, ver', hr'⟩ | ⟨_, hde', _⟩
        · exact absurd hde (noNew1 ha2 d ver' hr' hn)
        · exact absurd hde (noNew1 ha2 d ver' hr' hn)
        · exact absurd hde' (n3 d hde)
  -- the two ends are one
  have disj : ∀ i, wb1 i = none ∨ wb2 i = none := by
    intro i
    cases hw1 : wb1 i with
    | none => exact .inl rfl
    | some b1 =>
      cases hw2 : wb2 i with
      | none => exact .inr rfl
      | some b2 =>
        exfalso
        obtain ⟨ha1, hc1⟩ := hit1 i b1 hw1
        obtain ⟨ha2, hc2⟩ := hit2 i b2 hw2
        have two : ∀ {v v'}, ref p.k s = some (i, v) → ref q.k s1 = some (i, v') → (cls p.k = .mw ∨ cls p.k = .x) → (cls q.k = .mw ∨ cls q.k = .x) → False := by
          intro v v' r1 r2
          have hconf := noconf i v v' r1 r2
          rintro (h1 | h1) (h2 | h2) <;> rw [h1, h2] at hconf <;> simp [conf] at hconf
        rcases hc1 with ⟨hcl1, ⟨ver1, hr1⟩, _⟩ | ⟨hcl1, ver1, hr1⟩ | ⟨hn1, hde1, _⟩ <;> rcases hc2 with ⟨hcl2, ⟨ver2, hr2⟩, _⟩ | ⟨hcl2, ver2, hr2⟩ | ⟨hn2, hde2, _⟩
        · exact two hr1 hr2 (.inl hcl1) (.inl hcl2)
        · exact two hr1 hr2 (.inl hcl1) (.inr hcl2)
        · exact noNew2 ha1 i ver1 hr1 hn2 hde2
        · exact two hr1 hr2 (.inr hcl1) (.inl hcl2)
        · exact two hr1 hr2 (.inr hcl1) (.inr hcl2)
        · exact noNew2 ha1 i ver1 hr1 hn2 hde2
        · exact noNew1 ha2 i ver2 hr2 hn1 hde1
        · exact noNew1 ha2 i ver2 hr2 hn1 hde1
        · exact n3 i hde1 hde2
  have fin : upd p.dst v1 wb1 (upd q.dst v2 wb2 s) = s2 := by
    rw [L2.eq, hs1]
    simp only [upd, PS.mk.injEq]
    refine ⟨?_, ?_⟩
    · funext i
      by_cases e1 : some i = p.dst
      · have e2 : ¬ some i = q.dst := fun e => n3 i e1.symm e.symm
        rw [if_pos e1, if_neg e2, if_pos e1]
      · rw [if_neg e1]
        by_cases e2 : some i = q.dst
        · rw [if_pos e2, if_pos e2]
        · rw [if_neg e2, if_neg e2, if_neg e1]
    · funext i
      rcases disj i with h0 | h0 <;> rw [h0]
      · cases wb2 i <;> rfl
      · cases wb1 i <;> rfl
  refine ⟨fun c hc e ver hr => hcq c hc e ver (refq.trans hr), wpG_mono (fun u hu => ?_) Q⟩
  subst hu
  refine ⟨fun c hc e ver hr => hcp c hc e ver ((ref_agree (fun t ht => agp t (by simp [reads, ht]))).symm.trans hr), wpG_mono (fun u hu => ?_) Pn⟩
  subst hu
  rw [fin]
  exact hK
end Go.Pl
/-
  REGIONS: in the text's order, and in whatever order. My own work.
-/
namespace Go.Pl
open Go
set_option linter.unusedVariables false
set_option linter.unusedSimpArgs false
def storeOk (p : POp) : Bool := match p.k with
  | .store _ _ _ _ => p.dst.isNone
  | _ => true
theorem storeOk_spec {p : POp} (h : storeOk p = true) : (∃ n x y av, p.k = .store n x y av) → p.dst = none := by
  rintro ⟨n, x, y, av, hk⟩
  simp only [storeOk, hk] at h
  simpa using h
section
variable {O A0 : Nat → Prop} {w0 w : World} {β : Bt} {s : PS} {a : Act} {P : Program}
theorem op_wpOp {ops : Array Oper} {i : Nat} {o : Oper} {p : POp} {n : Nat} (hi : ops[i]? = some o) (hc : chkP P n ops o p = true) (hn : a.tmps.size = n) (h : Sim O w0 A0 β s (tmf a) w) {K : PS → Prop} (hw : wpG (PCallG P) p s K)
    {next : Act → World → Prop} {Q : Exit → Act → World → Prop}
    (hnext : ∀ β' s' a' w', Sim O w0 A0 β' s' (tmf a') w' → a'.tmps.size = n → a'.defers = a.defers → K s' → next a' w') : wpOp P ops Q i next a w := by
  simp only [chkP, Bool.and_eq_true, decide_eq_true_eq] at hc
  obtain ⟨⟨⟨hdst, hdn⟩, hg⟩, hk⟩ := hc
  have hd : dstOk o.dst a.tmps.size := by
    intro d e
    rw [e] at hdn
    rw [hn]
    simpa using hdn
  have run : wpK (PCallG P) p s K → o.wp P a w next Q := fun hw => op_wp (ops := ops) (n := n) hk hdst hd h hw fun β' s' v w' hS hK => hnext β' s' _ w' hS (by rw [put_size]; exact hn) (put_defers _ _ _) hK
  have skip : K (s.putO p.dst .undef) → next (a.put o.dst undef) w := fun hK => hnext β _ _ w (h.putO o.dst hd .undef undef rfl) (by rw [put_size]; exact hn) (put_defers _ _ _) (by rw [hdst]; exact hK)
  unfold wpOp
  simp only [hi]
  unfold wpG at hw
  cases hog : o.guard with
  | none =>
    have hpg : p.g = none := by
      cases hpg : p.g with
      | none => rfl
      | some x => rw [hog, hpg] at hg; cases hg
    rw [hpg] at hw
    have : Region.wanted o (yielded ops a.tmps) = true := by simp [Region.wanted, hog]
    rw [if_pos this]
    exact .inl (run hw)
  | some jw =>
    obtain ⟨j, want⟩ := jw
    cases hpg : p.g with
    | none => rw [hog, hpg] at hg; cases hg
    | some tw =>
      obtain ⟨t, want'⟩ := tw
      rw [hog, hpg] at hg
      simp only [chkG, Bool.and_eq_true, beq_iff_eq, decide_eq_true_eq] at hg
      obtain ⟨rfl, hjt⟩ := hg
      rw [hpg] at hw
      simp only at hw
      have hT := h.temps t
      split at hw
      · rename_i b hb
        rw [hb] at hT
        have hT := V.bool_inv hT
        have hget : a.tmps[t]? = some (.bool b) := by
          simp only [tmf, Array.getD_eq_getD_getElem?] at hT
          cases hq : a.tmps[t]? with
          | none => rw [hq] at hT; simp [undef] at hT
          | some v => rw [hq] at hT; simp at hT; rw [hT]
        have hy : yielded ops a.tmps j = some b := by simp only [yielded, hjt, Option.bind_some, hget]
        have hwa : Region.wanted o (yielded ops a.tmps) = (b == want) := by simp [Region.wanted, hog, hy]
        rw [hwa]
        by_cases hbw : b = want
        · rw [if_pos (by simpa using hbw)]
          exact .inl (run (hw.1 hbw))
        · rw [if_neg (by simpa using hbw)]
          exact skip (hw.2 hbw)
      · rename_i hb
        rw [hb] at hT
        have hT : tmf a t = undef := hT
        have hy : yielded ops a.tmps j = none := by
          simp only [yielded, hjt, Option.bind_some]
          simp only [tmf, Array.getD_eq_getD_getElem?] at hT
          cases hq : a.tmps[t]? with
          | none => rfl
          | some v => rw [hq] at hT; simp at hT; subst hT; rfl
        have hwa : Region.wanted o (yielded ops a.tmps) = false := by simp [Region.wanted, hog, hy]
        rw [hwa, if_neg (by simp)]
        exact skip hw
      · exact hw.elim
theorem wp_ex {o : Oper} {next : Act → World → Prop} (h : o.wp P a w next fun _ _ _ => False) : ∃ a' w', next a' w' := by
  unfold Oper.wp Oper.upon at h
  split at h
  · exact ⟨_, _, h⟩
  · exact ⟨_, _, h⟩
  · exact ⟨_, _, h⟩
  · obtain ⟨e, w', fr, hR, _⟩ := h []
    cases e with
    | returned v => exact ⟨_, _, hR⟩
    | panicked c => exact hR.elim
    | outgrown => exact (hR : LetsOut _).elim fun _ h => h.elim fun _ h => h.elim
  · obtain ⟨v, w', hR, _⟩ := h default []
    exact ⟨_, _, hR⟩
  · exact h.elim
  · exact h.elim
theorem wpOp_ex {ops : Array Oper} {i : Nat} {o : Oper} (hi : ops[i]? = some o) {next : Act → World → Prop} (h : wpOp P ops (fun _ _ _ => False) i next a w) : ∃ a' w', next a' w' := by
  unfold wpOp at h
  simp only [hi] at h
  split at h
  · rcases h with h | ⟨_, _, _, h⟩
    · exact wp_ex h
    · exact h.elim
  · exact ⟨_, _, h⟩
end
/-! ### In the text's order -/
def chkOps (P : Program) (n : Nat) (ops : Array Oper) : List Oper → List POp → Bool
  | [], [] => true
  | o :: l, p :: m => chkP P n ops o p && chkOps P n ops l m
  | _, _ => false
theorem chkOps_get {P : Program} {n : Nat} {ops : Array Oper} : ∀ {l : List Oper} {m : List POp}, chkOps P n ops l m = true → l.length = m.length ∧ ∀ (i : Nat) (h1 : i < l.length) (h2 : i < m.length), chkP P n ops l[i] m[i] = true
  | [], [], _ => ⟨rfl, fun i h => by simp at h⟩
  | [], _ :: _, h => by cases h
  | _ :: _, [], h => by cases h
  | o :: l, p :: m, h => by
    simp only [chkOps, Bool.and_eq_true] at h
    obtain ⟨h1, h2⟩ := chkOps_get h.2
    refine ⟨by simp [h1], fun i hi hj => ?_⟩
    cases i with
    | zero => exact h.1
    | succ i => exact h2 i (by simpa using hi) (by simpa using hj)
section
variable {O A0 : Nat → Prop} {w0 : World} {P : Program} {ops : Array Oper} {pl : List POp} {n : Nat}
theorem seq_ops (hc : chkOps P n ops ops.toList pl = true) {K : PS → Prop} {Q : Exit → Act → World → Prop} (hQ : ∀ β s a w, Sim O w0 A0 β s (tmf a) w → a.tmps.size = n → a.defers = [] → K s → Q .normal a w) :
    ∀ (m k : Nat), k + m = pl.length → ∀ (β : Bt) (s : PS) (a : Act) (w : World), Sim O w0 A0 β s (tmf a) w → a.tmps.size = n → a.defers = [] → wpL (PCallG P) (pl.drop k) s K → wpOps P ops Q (List.range' k m) a w
  | 0, k, hk, β, s, a, w, h, hn, hd, hw => by
    rw [List.drop_of_length_le (by omega)] at hw
    exact hQ β s a w h hn hd hw
  | m + 1, k, hk, β, s, a, w, h, hn, hd, hw => by
    obtain ⟨hl, hg⟩ := chkOps_get hc
    have hkl : k < pl.length := by omega
    have hko : k < ops.toList.length := by omega
    rw [List.drop_eq_getElem_cons hkl] at hw
    rw [List.range'_succ, wpOps_cons]
    have hi : ops[k]? = some ops.toList[k] := by simp
    refine op_wpOp hi (hg k hko hkl) hn h hw fun β' s' a' w' hS hn' hd' hK => ?_
    exact seq_ops hc hQ m (k + 1) (by omega) β' s' a' w' hS hn' (hd'.trans hd) hK
/-! ### In whatever order -/
def okNew (p q : POp) : Bool := !(isNew p.k && isNew q.k && p.dst.isSome && decide (p.dst = q.dst))
def dmask (acc : List Nat) (o : Oper) : Nat := o.after.toList.foldl (fun m e => if Region.binds .any e then m ||| (2 ^ e.on ||| acc.getD e.on 0) else m) 0
def masks : List Oper → List Nat → List Nat
  | [], acc => acc
  | o :: l, acc => masks l (acc ++ [dmask acc o])
inductive Ahead (ops : Array Oper) : Nat → Nat → Prop where
  | edge (i j : Nat) (o : Oper) (e : Edge) (ho : ops[j]? = some o) (he : e ∈ o.after.toList) (hb : Region.binds .any e = true) (hi : e.on = i) : Ahead ops i j
  | trans (i j k : Nat) (h : Ahead ops i j) (h' : Ahead ops j k) : Ahead ops i k
theorem dmask_sound {acc : List Nat} {o : Oper} {j : Nat} (ho : ops[j]? = some o) (hacc : ∀ k i, (acc.getD k 0).testBit i = true → Ahead ops i k) {i : Nat} (h : (dmask acc o).testBit i = true) : Ahead ops i j := by
  unfold dmask at h
  have key : ∀ (l : List Edge) (m : Nat), (∀ e ∈ l, e ∈ o.after.toList) → (l.foldl (fun m e => if Region.binds .any e then m ||| (2 ^ e.on ||| acc.getD e.on 0) else m) m).testBit i = true → m.testBit i = true ∨ Ahead ops i j := by
    intro l
    induction l with
    | nil => intro m _ h; exact .inl h
    | cons e l ih =>
      intro m hl h
      simp only [List.foldl_cons] at h
      rcases ih _ (fun x hx => hl x (by simp [hx])) h with h | h
      · split at h
        · rename_i hb
          simp only [Nat.testBit_or, Bool.or_eq_true] at h
          rcases h with h | h | h
          · exact .inl h
          · rw [Nat.testBit_two_pow] at h
            have : e.on = i := by simpa using h
            exact .inr (.edge i j o e ho (hl e (by simp)) hb this)
          · exact .inr (.trans i e.on j (hacc _ _ h) (.edge e.on j o e ho (hl e (by simp)) hb rfl))
        · exact .inl h
      · exact .inr h
  rcases key o.after.toList 0 (fun e he => he) h with h | h
  · simp at h
  · exact h
theorem masks_sound : ∀ (l : List Oper) (acc : List Nat), (∀ k (hk : k < l.length), ops[acc.length + k]? = some l[k]) → (∀ k i, (acc.getD k 0).testBit i = true → Ahead ops i k) →
    ∀ k i, ((masks l acc).getD k 0).testBit i = true → Ahead ops i k
  | [], acc, _, hacc => hacc
  | o :: l, acc, hl, hacc => by
    refine masks_sound l (acc ++ [dmask acc o]) (fun k hk => ?_) (fun k i h => ?_)
    · have := hl (k + 1) (by simp; omega)
      simp only [List.length_append, List.length_singleton]
      rw [show acc.length + 1 + k = acc.length + (k + 1) by omega, this]
      rfl
    · rw [List.getD_eq_getElem?_getD] at h
      by_cases hk : k < acc.length
      · rw [List.getElem?_append_left hk, ← List.getD_eq_getElem?_getD] at h; exact hacc k i h
      · rw [List.getElem?_append_right (by omega)] at h
        by_cases hk' : k = acc.length
        · subst hk'
          simp at h
          exact dmask_sound (hl 0 (by simp)) hacc h
        · rw [List.getElem?_eq_none (by simp; omega)] at h
          simp at h
def chkPairs (ms : List Nat) (pl : List POp) (on : List (Nat × Nat)) : Bool :=
  (List.range pl.length).all fun j => (List.range j).all fun i => okNew (pl.getD i default) (pl.getD j default) && ((ms.getD j 0).testBit i || okPair (pl.getD i default) (on.lookup i) (pl.getD j default) (on.lookup j))
def edgesIn (md : Region.Mode) (o : Oper) (done : List Nat) : Bool := o.after.all fun e => !Region.binds md e || done.contains e.on
def chkTopo (md : Region.Mode) (ops : Array Oper) : List Nat → List Nat → Bool
  | [], done => (List.range ops.size).all done.contains
  | i :: l, done => (match ops[i]? with | some o => edgesIn md o done | none => false) && chkTopo md ops l (i :: done)
def chkDraw (P : Program) (n : Nat) (ops : Array Oper) (pl : List POp) (on : List (Nat × Nat)) : Bool :=
  chkOps P n ops ops.toList pl && pl.all storeOk && chkPairs (masks ops.toList []) pl on && chkTopo .any ops (List.range ops.size) [] &&
    (!Region.departs ops || (chkTopo .text ops (List.range ops.size) [] && chkTopo .gc ops (Region.linearise .gc ops 0) []))
theorem topo_ready (md : Region.Mode) (listed : Array Bool) (hsz : listed.size = ops.size) : ∀ (l done : List Nat), chkTopo md ops l done = true → (∀ i ∈ done, listed.getD i false = true) →
    (∃ i, i < ops.size ∧ listed.getD i true = false) → Region.ready md ops listed ≠ []
  | [], done, h, hd, ⟨i, hi, hf⟩ => by
    simp only [chkTopo, List.all_eq_true, List.mem_range, List.contains_eq_mem, decide_eq_true_eq] at h
    have := hd i (h i hi)
    simp [hsz, hi] at hf this
    simp_all
  | i :: l, done, h, hd, hex => by
    simp only [chkTopo, Bool.and_eq_true] at h
    obtain ⟨h1, h2⟩ := h
    by_cases hl : listed.getD i false = true
    · refine topo_ready md listed hsz l (i :: done) h2 (fun k hk => ?_) hex
      rcases List.mem_cons.1 hk with rfl | hk
      · exact hl
      · exact hd k hk
    · intro hnil
      cases ho : ops[i]? with
      | none => rw [ho] at h1; cases h1
      | some o =>
        rw [ho] at h1
        have hi : i < ops.size := (Array.getElem?_eq_some_iff.1 ho).1
        have : i ∈ Region.ready md ops listed := by
          unfold Region.ready
          simp only [List.mem_filter, List.mem_range, Bool.and_eq_true, Bool.not_eq_true', ho, Option.map_some, Option.getD_some]
          refine ⟨hi, ?_, ?_⟩
          · have hi' : i < listed.size := by omega
            simp [hi'] at hl ⊢
            exact hl
          · simp only [edgesIn, Array.all_eq_true_iff_forall_mem, Bool.or_eq_true] at h1 ⊢
            intro e he
            rcases h1 e he with h | h
            · exact .inl h
            · exact .inr (hd _ (by simpa using h))
        rw [hnil] at this
        cases this
end
end Go.Pl
/-
  REGIONS IN WHATEVER ORDER: the theorem. My own work.
-/
namespace Go.Pl
open Go
set_option linter.unusedVariables false
set_option linter.unusedSimpArgs false
def wpR (C : CallP) (pl : List POp) (on : List (Nat × Nat)) : List Nat → PS → (PS → Prop) → Prop
  | [], s, K => K s
  | i :: r, s, K => clm (pl.getD i default) (on.lookup i) s ∧ wpG C (pl.getD i default) s fun s' => wpR C pl on r s' K
theorem wpR_of_wpLB {C : CallP} {pl : List POp} {on : List (Nat × Nat)} {K : PS → Prop} : ∀ (m k : Nat), k + m = pl.length → ∀ s, wpLB C on k (pl.drop k) s K → wpR C pl on (List.range' k m) s K
  | 0, k, hk, s, h => by rw [List.drop_of_length_le (by omega)] at h; exact h
  | m + 1, k, hk, s, h => by
    have hkl : k < pl.length := by omega
    rw [List.drop_eq_getElem_cons hkl] at h
    rw [List.range'_succ]
    have : pl.getD k default = pl[k] := by simp [hkl]
    simp only [wpR, this]
    exact ⟨h.1, wpG_mono (fun s h => wpR_of_wpLB m (k + 1) (by omega) s h) h.2⟩
theorem wpLB_of_wpL {C : CallP} {K : PS → Prop} : ∀ (l : List POp) (k : Nat) (s : PS), wpL C l s K → wpLB C [] k l s K
  | [], k, s, h => h
  | o :: l, k, s, h => ⟨fun c hc => (nomatch hc), wpG_mono (fun s h => wpLB_of_wpL l (k + 1) s h) h⟩
section
variable {O A0 : Nat → Prop} {w0 : World} {P : Program} {ops : Array Oper} {pl : List POp} {on : List (Nat × Nat)} {n : Nat}
def SimEx (O A0 : Nat → Prop) (w0 : World) (n : Nat) (s : PS) : Prop := ∃ β a w, Sim O w0 A0 β s (tmf a) w ∧ a.tmps.size = n ∧ a.defers = []
def DeadR (pl : List POp) (rem : List Nat) (s : PS) : Prop := ∀ i ∈ rem, isNew (pl.getD i default).k = true → ∀ d, (pl.getD i default).dst = some d → (s.bx d).st = .dead
structure Reg (P : Program) (n : Nat) (ops : Array Oper) (pl : List POp) (on : List (Nat × Nat)) : Prop where
  len : ops.size = pl.length
  chk : ∀ (i : Nat) (o : Oper), ops[i]? = some o → chkP P n ops o (pl.getD i default) = true
  store : ∀ i, i < pl.length → storeOk (pl.getD i default) = true
  new : ∀ i j, i < pl.length → j < pl.length → i ≠ j → okNew (pl.getD i default) (pl.getD j default) = true
  pair : ∀ i j, i < j → j < pl.length → Ahead ops i j ∨ okPair (pl.getD i default) (on.lookup i) (pl.getD j default) (on.lookup j) = true
theorem okNew_symm {p q : POp} (h : okNew p q = true) : okNew q p = true := by
  simp only [okNew, Bool.not_eq_true', Bool.and_eq_false_iff, decide_eq_false_iff_not] at h ⊢
  rcases h with ((h | h) | h) | h
  · exact .inl (.inl (.inr h))
  · exact .inl (.inl (.inl h))
  · by_cases e : p.dst = q.dst
    · exact .inl (.inr (by rw [← e]; exact h))
    · exact .inr fun e' => e e'.symm
  · exact .inr fun e' => h e'.symm
theorem Reg.of_chk (h : chkDraw P n ops pl on = true) : Reg P n ops pl on := by
  simp only [chkDraw, Bool.and_eq_true] at h
  obtain ⟨⟨⟨⟨h1, h2⟩, h3⟩, _⟩, _⟩ := h
  obtain ⟨hl, hg⟩ := chkOps_get h1
  simp only [Array.length_toList] at hl
  have hp : ∀ i j, i < j → j < pl.length → okNew (pl.getD i default) (pl.getD j default) = true ∧ (Ahead ops i j ∨ okPair (pl.getD i default) (on.lookup i) (pl.getD j default) (on.lookup j) = true) := by
    intro i j hij hj
    simp only [chkPairs, List.all_eq_true, List.mem_range, Bool.and_eq_true, Bool.or_eq_true] at h3
    obtain ⟨q1, q2⟩ := h3 j hj i hij
    refine ⟨q1, q2.imp (fun q => ?_) id⟩
    exact masks_sound ops.toList [] (fun k hk => by simp at hk ⊢) (fun k i h => by simp at h) j i q
  refine ⟨hl, fun i o ho => ?_, fun i hi => ?_, fun i j hi hj hij => ?_, fun i j hij hj => (hp i j hij hj).2⟩
  · obtain ⟨hi, rfl⟩ := Array.getElem?_eq_some_iff.1 ho
    have := hg i (by simpa using hi) (by omega)
    have e : pl.getD i default = pl[i]'(by omega) := by simp [show i < pl.length by omega]
    rw [e]
    simpa using this
  · have e : pl.getD i default = pl[i] := by simp [hi]
    rw [e]
    exact List.all_eq_true.1 h2 _ (List.getElem_mem hi)
  · rcases Nat.lt_or_gt_of_ne hij with h | h
    · exact (hp i j h hj).1
    · exact okNew_symm (hp j i h hi).1
theorem dead_step {C : CallP} {p : POp} {s s' : PS} {v : PV} {wb : Nat → Option Box} {act : Bool} (L : LocG C p s s' v wb act) {d : Nat} (hd : (s.bx d).st = .dead) (hne : ¬ (isNew p.k = true ∧ p.dst = some d)) : (s'.bx d).st = .dead := by
  rw [L.eq]
  show ((wb d).getD (s.bx d)).st = .dead
  cases hw : wb d with
  | none => exact hd
  | some b =>
    exfalso
    cases ha : act with
    | false => rw [L.wb0 ha] at hw; cases hw
    | true =>
      rcases L.wb1 ha d b hw with ⟨_, ⟨ver, hr⟩, _⟩ | ⟨_, ver, hr⟩ | ⟨hn, hde, _⟩
      · exact (L.live ha d ver hr (ref_key hr)).2 hd
      · exact (L.live ha d ver hr (ref_key hr)).2 hd
      · exact hne ⟨hn, hde⟩
theorem stepR (hR : Reg P n ops pl on) {i : Nat} (hi : i < pl.length) {rem : List Nat} (hrem : ∀ j ∈ rem, j < pl.length ∧ j ≠ i) {s : PS} (hS : SimEx O A0 w0 n s) (hD : DeadR pl rem s) {K : PS → Prop} (h : wpG (PCallG P) (pl.getD i default) s K) :
    wpG (PCallG P) (pl.getD i default) s fun s1 => K s1 ∧ SimEx O A0 w0 n s1 ∧ DeadR pl rem s1 := by
  obtain ⟨s', v, wb, act, L, hK⟩ := locG (storeOk_spec (hR.store i hi)) h
  have hself : wpG (PCallG P) (pl.getD i default) s (· = s') := by
    have := L.again s (fun _ _ => rfl) fun _ => ⟨fun e ver _ => ⟨fun _ => kindEq.refl _, fun _ => rfl⟩, fun _ _ _ => rfl⟩
    rw [← L.eq] at this
    exact this
  refine wpG_mono (fun s1 hs1 => ?_) hself
  subst hs1
  refine ⟨hK, ?_, ?_⟩
  · obtain ⟨β, a, w, hs, hn, hd⟩ := hS
    have hio : i < ops.size := by rw [hR.len]; exact hi
    have ho : ops[i]? = some ops[i] := Array.getElem?_eq_getElem hio
    have := op_wpOp (next := fun a' w' => SimEx O A0 w0 n s1) (Q := fun _ _ _ => False) ho (hR.chk i _ ho) hn hs hself fun β' s2 a' w' hS' hn' hd' e => by
      subst e
      exact ⟨β', a', w', hS', hn', hd'.trans hd⟩
    obtain ⟨_, _, h⟩ := wpOp_ex ho this
    exact h
  · intro j hj hn d hde
    refine dead_step L (hD j hj hn d hde) ?_
    rintro ⟨hn', hde'⟩
    have := hR.new i j hi (hrem j hj).1 (Ne.symm (hrem j hj).2)
    unfold okNew at this
    rw [hn, hn', hde, hde'] at this
    simp at this
theorem moveFront (hR : Reg P n ops pl on) {i : Nat} (hi : i < pl.length) {K : PS → Prop} : ∀ (pre post : List Nat) (s : PS), (∀ j ∈ pre, j < pl.length ∧ j ≠ i ∧ okPair (pl.getD j default) (on.lookup j) (pl.getD i default) (on.lookup i) = true) → (pre ++ i :: post).Nodup → (∀ j ∈ post, j < pl.length) →
    SimEx O A0 w0 n s → DeadR pl (pre ++ i :: post) s → wpR (PCallG P) pl on (pre ++ i :: post) s K → wpR (PCallG P) pl on (i :: (pre ++ post)) s K
  | [], post, s, _, _, _, _, _, h => h
  | j :: pre, post, s, hpre, hnd, hpost, hS, hD, h => by
    obtain ⟨hj, hji, hok⟩ := hpre j (by simp)
    simp only [List.cons_append, wpR] at h ⊢
    have hnd' : (pre ++ i :: post).Nodup ∧ j ∉ pre ++ i :: post := by
      simp only [List.cons_append, List.nodup_cons] at hnd; exact ⟨hnd.2, hnd.1⟩
    have hrem : ∀ k ∈ pre ++ i :: post, k < pl.length ∧ k ≠ j := by
      intro k hk
      refine ⟨?_, fun e => hnd'.2 (e ▸ hk)⟩
      rcases List.mem_append.1 hk with hk | hk
      · exact (hpre k (by simp [hk])).1
      · rcases List.mem_cons.1 hk with rfl | hk
        · exact hi
        · exact hpost k hk
    obtain ⟨hc0, h⟩ := h
    have h1 := stepR hR hj hrem hS (fun k hk => hD k (by simp only [List.cons_append, List.mem_cons]; exact .inr hk)) h
    have h2 : wpG (PCallG P) (pl.getD j default) s fun s1 => clm (pl.getD i default) (on.lookup i) s1 ∧ wpG (PCallG P) (pl.getD i default) s1 fun s2 => wpR (PCallG P) pl on (pre ++ post) s2 K := by
      refine wpG_mono (fun s1 hs1 => ?_) h1
      have := moveFront hR hi pre post s1 (fun k hk => hpre k (by simp [hk])) hnd'.1 hpost hs1.2.1 hs1.2.2 hs1.1
      exact this
    obtain ⟨β, a, w, hsim, _, _⟩ := hS
    exact swap (storeOk_spec (hR.store j hj)) (storeOk_spec (hR.store i hi)) hok hsim.wf hc0 (fun hn d hde => hD j (by simp) hn d hde) (fun hn d hde => hD i (by simp) hn d hde) h2
theorem Ahead.listed {listed : Array Bool} (hcl : ∀ j, listed.getD j false = true → ∀ o e, ops[j]? = some o → e ∈ o.after.toList → Region.binds .any e = true → listed.getD e.on false = true) {i j : Nat} (h : Ahead ops i j) : listed.getD j false = true → listed.getD i false = true := by
  induction h with
  | edge i j o e ho he hb hi => intro hj; rw [← hi]; exact hcl j hj o e ho he hb
  | trans i j k _ _ ih1 ih2 => intro hk; exact ih1 (ih2 hk)
def left_ (m : Nat) (listed : Array Bool) : List Nat := (List.range m).filter fun i => !listed.getD i true
theorem mem_left {m : Nat} {listed : Array Bool} {i : Nat} : i ∈ left_ m listed ↔ i < m ∧ listed.getD i true = false := by
  simp [left_]
theorem left_set {m i : Nat} {listed : Array Bool} (hsz : listed.size = m) (hi : i < m) : left_ m (listed.setIfInBounds i true) = (left_ m listed).filter (· != i) := by
  unfold left_
  rw [List.filter_filter]
  refine List.filter_congr fun k hk => ?_
  have hk' : k < m := by simpa using hk
  by_cases e : k = i
  · subst e; simp [hsz, hk']
  · have : (listed.setIfInBounds i true)[k]? = listed[k]? := Array.getElem?_setIfInBounds_ne (Ne.symm e)
    simp only [Array.getD_eq_getD_getElem?, this]
    simp [e]
theorem filter_split {l : List Nat} (hn : l.Nodup) {i : Nat} (hi : i ∈ l) : ∃ pre post, l = pre ++ i :: post ∧ l.filter (· != i) = pre ++ post := by
  obtain ⟨pre, post, rfl⟩ := List.append_of_mem hi
  refine ⟨pre, post, rfl, ?_⟩
  rw [List.nodup_append] at hn
  obtain ⟨h1, h2, h3⟩ := hn
  rw [List.nodup_cons] at h2
  have e1 : pre.filter (· != i) = pre := List.filter_eq_self.2 fun k hk => by
    have := h3 k hk i (by simp); simpa using this
  have e2 : post.filter (· != i) = post := List.filter_eq_self.2 fun k hk => by
    have : k ≠ i := fun e => h2.1 (e ▸ hk)
    simpa using this
  simp [List.filter_append, e1, e2]
theorem any_order (hR : Reg P n ops pl on) (md : Region.Mode) {ord : List Nat} (htopo : chkTopo md ops ord [] = true) (hmd : ∀ e, Region.binds .any e = true → Region.binds md e = true) {K : PS → Prop} {Q : Exit → Act → World → Prop}
    (hQ : ∀ β s a w, Sim O w0 A0 β s (tmf a) w → a.tmps.size = n → a.defers = [] → K s → Q .normal a w) :
    ∀ (fuel : Nat) (listed : Array Bool), listed.size = ops.size → (left_ ops.size listed).length = fuel →
    (∀ j, listed.getD j false = true → ∀ o e, ops[j]? = some o → e ∈ o.after.toList → Region.binds .any e = true → listed.getD e.on false = true) →
    ∀ (β : Bt) (s : PS) (a : Act) (w : World), Sim O w0 A0 β s (tmf a) w → a.tmps.size = n → a.defers = [] → DeadR pl (left_ ops.size listed) s → wpR (PCallG P) pl on (left_ ops.size listed) s K → wpAny P md ops Q fuel listed a w
  | 0, listed, hsz, hfuel, hcl, β, s, a, w, hS, hn, hd, hD, h => by
    have h0 := List.eq_nil_of_length_eq_zero hfuel
    rw [h0] at h
    refine ⟨?_, hQ β s a w hS hn hd h⟩
    unfold Region.ready
    rw [List.filter_eq_nil_iff]
    intro k hk
    have hk' : k < ops.size := by simpa using hk
    have : ¬ k ∈ left_ ops.size listed := by rw [h0]; simp
    rw [mem_left] at this
    simp [hk'] at this ⊢
    intro h
    simp_all
  | fuel + 1, listed, hsz, hfuel, hcl, β, s, a, w, hS, hn, hd, hD, h => by
    have hnd : (left_ ops.size listed).Nodup := List.Pairwise.filter _ List.nodup_range
    refine ⟨fun hr => ?_, fun i hi => ?_⟩
    · exfalso
      have : ∃ i, i ∈ left_ ops.size listed := by
        cases hl : left_ ops.size listed with
        | nil => rw [hl] at hfuel; simp at hfuel
        | cons x l => exact ⟨x, by simp⟩
      obtain ⟨i, hi⟩ := this
      rw [mem_left] at hi
      exact topo_ready md listed hsz ord [] htopo (by simp) ⟨i, hi.1, hi.2⟩ hr
    · unfold Region.ready at hi
      simp only [List.mem_filter, List.mem_range, Bool.and_eq_true, Bool.not_eq_true'] at hi
      obtain ⟨hio, hun, hready⟩ := hi
      have ho : ops[i]? = some ops[i] := Array.getElem?_eq_getElem hio
      rw [ho] at hready
      simp only [Option.map_some, Option.getD_some, Array.all_eq_true_iff_forall_mem, Bool.or_eq_true, Bool.not_eq_true'] at hready
      have hil : i < pl.length := by rw [← hR.len]; exact hio
      have hmem : i ∈ left_ ops.size listed := mem_left.2 ⟨hio, hun⟩
      obtain ⟨pre, post, hsplit, hfil⟩ := filter_split hnd hmem
      rw [hsplit] at h hD hnd
      have hlt : ∀ k ∈ pre ++ i :: post, k < pl.length := fun k hk => by rw [← hR.len]; exact (mem_left.1 (hsplit ▸ hk)).1
      have hpre : ∀ j ∈ pre, j < pl.length ∧ j ≠ i ∧ okPair (pl.getD j default) (on.lookup j) (pl.getD i default) (on.lookup i) = true := by
        intro j hj
        have hjm : j ∈ left_ ops.size listed := hsplit ▸ List.mem_append_left _ hj
        have hji : j < i := by
          have hs : (pre ++ i :: post).Pairwise (· < ·) := hsplit ▸ List.Pairwise.filter _ List.pairwise_lt_range
          exact (List.pairwise_append.1 hs).2.2 j hj i (by simp)
        refine ⟨hlt j (List.mem_append_left _ hj), by omega, ?_⟩
        rcases hR.pair j i hji hil with ha | ha
        · exfalso
          -- it stands ahead of 'i', and so is listed
          have hlist : ∀ {x y : Nat}, Ahead ops x y → y = i → listed.getD x false = true := by
            intro x y hxy
            induction hxy with
            | edge x y o e ho' he hb hx =>
              intro hy
              subst hy
              rw [ho] at ho'
              cases ho'
              rcases hready e (by simpa using he) with h' | h'
              · rw [hmd e hb] at h'; cases h'
              · rw [← hx]; exact h'
            | trans x y z h1 h2 ih1 ih2 =>
              intro hz
              exact h1.listed hcl (ih2 hz)
          have := hlist ha rfl
          have hj2 := (mem_left.1 hjm).2
          have hjs : j < listed.size := by rw [hsz]; exact (mem_left.1 hjm).1
          simp [hjs] at this hj2
          rw [this] at hj2
          cases hj2
        · exact ha
      have hfront := moveFront hR hil pre post s hpre hnd (fun k hk => hlt k (by simp [hk])) ⟨β, a, w, hS, hn, hd⟩ hD h
      simp only [wpR] at hfront
      have hrem : ∀ k ∈ pre ++ post, k < pl.length ∧ k ≠ i := by
        intro k hk
        have hnn : i ∉ pre ++ post := by
          rw [List.nodup_append] at hnd
          obtain ⟨_, h2, h3⟩ := hnd
          rw [List.nodup_cons] at h2
          intro hm
          rcases List.mem_append.1 hm with hm | hm
          · exact h3 i hm i (by simp) rfl
          · exact h2.1 hm
        refine ⟨hlt k ?_, fun e => hnn (e ▸ hk)⟩
        rcases List.mem_append.1 hk with hk | hk
        · exact List.mem_append_left _ hk
        · exact List.mem_append_right _ (List.mem_cons_of_mem _ hk)
      have hD' : DeadR pl (pre ++ post) s := fun k hk => hD k (by
        rcases List.mem_append.1 hk with hk | hk
        · exact List.mem_append_left _ hk
        · exact List.mem_append_right _ (List.mem_cons_of_mem _ hk))
      have hstep := stepR hR hil hrem ⟨β, a, w, hS, hn, hd⟩ hD' hfront.2
      have hset := left_set hsz hio
      refine op_wpOp ho (hR.chk i _ ho) hn hS hstep fun β' s' a' w' hS' hn' hd' hK => ?_
      refine any_order hR md htopo hmd hQ fuel (listed.setIfInBounds i true) (by simpa using hsz) ?_ ?_ β' s' a' w' hS' hn' (hd'.trans hd) (by rw [hset, hfil]; exact hK.2.2) (by rw [hset, hfil]; exact hK.1)
      · rw [hset, hfil]
        rw [hsplit] at hfuel
        simp at hfuel ⊢
        omega
      · intro j hj o e ho' he hb
        by_cases hje : j = i
        · subst hje
          rw [ho] at ho'
          cases ho'
          rcases hready e (by simpa using he) with h' | h'
          · rw [hmd e hb] at h'; cases h'
          · by_cases hei : e.on = j
            · rw [hei]; simp [hsz, hio]
            · have : (listed.setIfInBounds j true)[e.on]? = listed[e.on]? := Array.getElem?_setIfInBounds_ne (Ne.symm hei)
              simp only [Array.getD_eq_getD_getElem?, this]
              simpa [Array.getD_eq_getD_getElem?] using h'
        · have e1 : (listed.setIfInBounds i true)[j]? = listed[j]? := Array.getElem?_setIfInBounds_ne (Ne.symm hje)
          have hj' : listed.getD j false = true := by
            simp only [Array.getD_eq_getD_getElem?, e1] at hj ⊢; exact hj
          have := hcl j hj' o e ho' he hb
          by_cases hei : e.on = i
          · rw [hei]; simp [hsz, hio]
          · have e2 : (listed.setIfInBounds i true)[e.on]? = listed[e.on]? := Array.getElem?_setIfInBounds_ne (Ne.symm hei)
            simp only [Array.getD_eq_getD_getElem?, e2] at this ⊢
            exact this
end
end Go.Pl
/-
  A slice of the frame's own changes its box. My own work.
-/
namespace Go.Pl
open Go
set_option linter.unusedVariables false
section
variable {O A0 : Nat → Prop} {w0 w : World} {β : Bt} {s : PS} {a : Act} {P : Program}
theorem Sim.rn {tm : Nat → Value} (h : Sim O w0 A0 β s tm w) {i d e ver len sz : Nat} {es : List (List CV)} (hi : s.t i = .osl d ver 0 len) (hb : s.bx d = ⟨ver, .sl sz es⟩) (hde : d ≠ e) (hl : len = es.length) :
    Sim O w0 A0 (fun j => if j = e then β d else β j) (((s.box d ⟨ver, .dead⟩).box e ⟨(s.bx e).ver + 1, .sl sz es⟩).put i (.osl e ((s.bx e).ver + 1) 0 len)) tm w := by
  have hown : (s.bx d).st.owned = true := by rw [hb]; rfl
  have hbd : ((s.box d ⟨ver, .dead⟩).box e ⟨(s.bx e).ver + 1, .sl sz es⟩).bx d = ⟨ver, .dead⟩ := by simp [PS.box, hde]
  have hbe : ((s.box d ⟨ver, .dead⟩).box e ⟨(s.bx e).ver + 1, .sl sz es⟩).bx e = ⟨(s.bx e).ver + 1, .sl sz es⟩ := by simp [PS.box]
  have hbo : ∀ j, j ≠ d → j ≠ e → ((s.box d ⟨ver, .dead⟩).box e ⟨(s.bx e).ver + 1, .sl sz es⟩).bx j = s.bx j := fun j h1 h2 => by simp [PS.box, h1, h2]
  generalize hu : ((s.box d ⟨ver, .dead⟩).box e ⟨(s.bx e).ver + 1, .sl sz es⟩) = u at hbd hbe hbo ⊢
  have hut : ∀ j, u.t j = s.t j := fun j => by rw [← hu]; rfl
  have hless : ∀ b, Nn O (fun j => if j = e then β d else β j) u.bx b → Nn O β s.bx b := by
    rintro b (hn | ⟨j, base, ho, hj⟩)
    · exact .inl hn
    · by_cases ej : j = e
      · simp only [if_pos ej] at hj; exact .inr ⟨d, base, hown, hj⟩
      · simp only [if_neg ej] at hj
        by_cases ed : j = d
        · subst ed; rw [hbd] at ho; cases ho
        · rw [hbo j ed ej] at ho; exact .inr ⟨j, base, ho, hj⟩
  have hext : Ext w (Nn O β s.bx) w (Nn O (fun j => if j = e then β d else β j) u.bx) := .of_less hless
  have hcomp : ∀ j, Compat w w (β j) ((fun j => if j = e then β d else β j) j) (s.bx j) (u.bx j) := by
    intro j
    by_cases ej : j = e
    · subst ej; rw [hbe]; exact .inl (by simp)
    · by_cases ed : j = d
      · subst ed; rw [hbd, hb]; exact .inr ⟨rfl, .inl rfl⟩
      · rw [hbo j ed ej]; simp only [if_neg ej]; exact Compat.same fun q n _ _ hw => hw
  have hR := h.temps i
  rw [hi] at hR
  have hB := h.boxes d
  rw [hb] at hB
  have hH := hdr_of hR hb hl hB
  refine ⟨h.os, h.tape, h.output, h.size, h.keep, fun j => ?_, fun j => ?_, fun j k p q hjk hj hk hp hq => ?_, fun j p hj hp => ?_, h.outer⟩
  · by_cases ej : j = i
    · subst ej
      simp only [PS.put, if_true]
      refine ⟨by rw [hbe]; exact Nat.le_refl _, fun _ sz2 es2 hs2 => ⟨rfl, ?_⟩⟩
      rw [hbe] at hs2
      cases hs2
      simp only [if_true]
      rcases hH with ⟨h1, h2, h3⟩ | ⟨b, cap, h1, h2, h3, h4⟩
      · exact .inl ⟨h1, h2, by rw [hl, h3]; rfl⟩
      · exact .inr ⟨b, cap, h1, by rw [hl]; exact h2, by rw [hl]; exact h3, h4⟩
    · simp only [PS.put, if_neg ej, hut]
      exact (h.temps j).change hext hcomp
  · show BR w (Nn O _ u.bx) _ (u.bx j).st
    by_cases ej : j = e
    · subst ej
      rw [hbe]
      simp only [if_true]
      refine ⟨hB.1, ?_⟩
      rcases hB.2 with hb' | ⟨b, hp, ho, hc⟩
      · exact .inl hb'
      · exact .inr ⟨b, hp, ho, fun i hi => (hc i hi).ext hext rfl⟩
    · by_cases ed : j = d
      · subst ed; rw [hbd]; trivial
      · rw [hbo j ed ej]
        simp only [if_neg ej]
        have hb' := h.boxes j
        cases hst : (s.bx j).st with
        | var cs =>
          rw [hst] at hb'
          obtain ⟨b, base, hp, ho, hc⟩ := hb'
          exact ⟨b, base, hp, ho, hc.ext hext rfl⟩
        | vfz cs =>
          rw [hst] at hb'
          obtain ⟨b, base, hp, hlt, hN, hc⟩ := hb'
          exact ⟨b, base, hp, hlt, fun hn => hN (hless b hn), hc.ext hext rfl⟩
        | sl sz es =>
          rw [hst] at hb'
          refine ⟨hb'.1, ?_⟩
          rcases hb'.2 with hb' | ⟨b, hp, ho, hc⟩
          · exact .inl hb'
          · exact .inr ⟨b, hp, ho, fun i hi => (hc i hi).ext hext rfl⟩
        | dead => trivial
  · have key : ∀ j, (u.bx j).st.owned = true → ∃ j', (s.bx j').st.owned = true ∧ (if j = e then β d else β j) = β j' ∧ ((j = e ∧ j' = d) ∨ (j ≠ e ∧ j ≠ d ∧ j' = j)) := by
      intro j hj
      by_cases ej : j = e
      · exact ⟨d, hown, by simp [ej], .inl ⟨ej, rfl⟩⟩
      · by_cases ed : j = d
        · subst ed; rw [hbd] at hj; cases hj
        · rw [hbo j ed ej] at hj; exact ⟨j, hj, by simp [ej], .inr ⟨ej, ed, rfl⟩⟩
    obtain ⟨j', hj1, hj2, hj3⟩ := key j hj
    obtain ⟨k', hk1, hk2, hk3⟩ := key k hk
    have hp : (if j = e then β d else β j) = some p := hp
    have hq : (if k = e then β d else β k) = some q := hq
    rw [hj2] at hp
    rw [hk2] at hq
    refine h.inj j' k' p q ?_ hj1 hk1 hp hq
    rcases hj3 with ⟨e1, e2⟩ | ⟨e1, e2, e3⟩ <;> rcases hk3 with ⟨f1, f2⟩ | ⟨f1, f2, f3⟩
    · exact absurd (e1.trans f1.symm) hjk
    · rw [e2, f3]; exact fun h => f2 h.symm
    · rw [e3, f2]; exact e2
    · rw [e3, f3]; exact hjk
  · by_cases ej : j = e
    · simp only [if_pos ej] at hp; exact h.out d p hown hp
    · simp only [if_neg ej] at hp
      by_cases ed : j = d
      · subst ed
        have hj' : (u.bx j).st.owned = true := hj
        rw [hbd] at hj'; cases hj'
      · have hj' : (u.bx j).st.owned = true := hj
        rw [hbo j ed ej] at hj'; exact h.out j p hj' hp
end
end Go.Pl
/-
  WHOLE FUNCTIONS: what the plain code comes to, the model's call comes to. My own work.
-/
namespace Go.Pl
open Go
set_option linter.unusedVariables false
set_option linter.unusedSimpArgs false
def chkC (P : Program) (n : Nat) : Code → PCode → Bool
  | c, .fz _ p => chkC P n c p
  | c, .rn _ _ p => chkC P n c p
  | c, .skip => match c with | .skip => true | _ => false
  | c, .ops dr l => match c with
    | .region _ ops draw => (dr == draw) && (if draw then chkDraw P n ops l [] else chkOps P n ops ops.toList l)
    | _ => false
  | c, .opsB l on => match c with
    | .region _ ops draw => draw && chkDraw P n ops l on
    | _ => false
  | c, .seq p q => match c with
    | .seq a b => chkC P n a p && chkC P n b q
    | _ => false
  | c, .cond x p q => match c with
    | .cond y a b => chkPO y x && chkC P n a p && chkC P n b q
    | _ => false
  | c, .block id p => match c with
    | .block id' a => decide (id' = id) && chkC P n a p
    | _ => false
  | c, .loop p => match c with
    | .loop a => chkC P n a p
    | _ => false
  | c, .exit id => match c with
    | .exit id' => decide (id' = id)
    | _ => false
  | c, .ret => match c with | .ret => true | _ => false
def exOf : Ex → Exit
  | .n => .normal
  | .x id => .exit id
  | .r => .ret
section
variable {O A0 : Nat → Prop} {w0 : World} {P : Program} {n : Nat}
theorem Sim.killsAll {β : Bt} {tm : Nat → Value} {w : World} : ∀ (l : List Nat) {s : PS}, Sim O w0 A0 β s tm w → Sim O w0 A0 β (s.kills l) tm w
  | [], s, h => h
  | d :: l, s, h => Sim.killsAll l (h.kill d)
theorem kills_dead : ∀ (l : List Nat) (s : PS) (d : Nat), (d ∈ l ∨ (s.bx d).st = .dead) → ((s.kills l).bx d).st = .dead
  | [], s, d, h => h.resolve_left (by simp)
  | e :: l, s, d, h => by
    refine kills_dead l _ d ?_
    by_cases hde : d = e
    · subst hde; exact .inr (by simp [PS.box])
    · rcases h with h | h
      · rcases List.mem_cons.1 h with rfl | h
        · exact absurd rfl hde
        · exact .inl h
      · exact .inr (by simp only [PS.box, if_neg hde]; exact h)
theorem mem_newSites : ∀ {l : List POp} {p : POp} {d : Nat}, p ∈ l → isNew p.k = true → p.dst = some d → d ∈ newSites l
  | q :: l, p, d, hp, hn, hd => by
    rcases List.mem_cons.1 hp with rfl | hp
    · simp [newSites, hn, hd]
    · have := mem_newSites hp hn hd
      simp only [newSites]
      split
      · exact List.mem_cons_of_mem _ this
      · exact this
def InLoop (P : Program) (c : Code) (Q : Exit → Act → World → Prop) (a : Act) (w : World) : Prop :=
  ∀ (b : Frame) (k : List Item) (cs : List Frame), ∃ e a' w', Q e a' w' ∧ Arrives P (lone (b.at a (.code c :: .inLoop c :: k)) cs w) b k cs e a' w'
theorem inLoop_of {c : Code} {Q : Exit → Act → World → Prop} {a : Act} {w : World} (h : c.wp P (Exit.then (InLoop P c Q) Q) a w) : InLoop P c Q a w := by
  intro b k cs
  obtain ⟨e, a₁, w₁, hq, harr⟩ := h b (.inLoop c :: k) cs
  cases e with
  | normal =>
    obtain ⟨e₂, a₂, w₂, hq₂, harr₂⟩ := hq b k cs
    exact ⟨e₂, a₂, w₂, hq₂, .of_steps (Steps.trans harr (.one step_inLoop)) harr₂⟩
  | exit id => exact ⟨_, a₁, w₁, hq, .pass (x := .inLoop c) rfl (fun _ _ => .inl (by simp)) harr⟩
  | goto l => exact ⟨_, a₁, w₁, hq, .pass (x := .inLoop c) rfl (fun _ _ => .inl (by simp)) harr⟩
  | ret => exact ⟨_, a₁, w₁, hq, .pass (x := .inLoop c) rfl (fun _ _ => .inl (by simp)) harr⟩
  | panic ch => exact ⟨_, a₁, w₁, hq, .pass (x := .inLoop c) rfl (fun _ _ => .inl (by simp)) harr⟩
  | outgrown => exact ⟨_, a₁, w₁, hq, .pass (x := .inLoop c) rfl (fun _ _ => .inl (by simp)) harr⟩
theorem draw_sound {id : Nat} {ops : Array Oper} {l : List POp} {on : List (Nat × Nat)} (hc : chkDraw P n ops l on = true) {K : PS → Prop} {Q : Exit → Act → World → Prop}
    (hQ : ∀ β s a w, Sim O w0 A0 β s (tmf a) w → a.tmps.size = n → a.defers = [] → K s → Q .normal a w) {β : Bt} {s : PS} {a : Act} {w : World} (h : Sim O w0 A0 β s (tmf a) w) (hn : a.tmps.size = n) (hd : a.defers = [])
    (hw : wpLB (PCallG P) on 0 l (s.kills (newSites l)) K) : (Code.region id ops true).wp P Q a w := by
  have hR := Reg.of_chk hc
  refine wp_region_draw fun t => ?_
  have hk := h.killsAll (newSites l)
  have hdrew : Sim O w0 A0 β (s.kills (newSites l)) (tmf a) { w with drawn := w.drawn + 1 } := hk.grow rfl rfl rfl (Nat.le_refl _) fun _ _ => rfl
  have hleft : left_ ops.size (Array.replicate ops.size false) = List.range ops.size := by
    unfold left_
    refine List.filter_eq_self.2 fun i hi => ?_
    have : i < ops.size := by simpa using hi
    simp [this]
  have hwr : wpR (PCallG P) l on (List.range ops.size) (s.kills (newSites l)) K := by
    rw [hR.len, List.range_eq_range']
    exact wpR_of_wpLB l.length 0 (by simp) _ (by simpa using hw)
  have hD : DeadR l (List.range ops.size) (s.kills (newSites l)) := by
    intro i hi hn' d hde
    have hil : i < l.length := by rw [← hR.len]; simpa using hi
    refine kills_dead _ _ _ (.inl (mem_newSites (List.getElem_mem hil) ?_ ?_))
    · have e : l.getD i default = l[i] := by simp [hil]
      rw [e] at hn'; exact hn'
    · have e : l.getD i default = l[i] := by simp [hil]
      rw [e] at hde; exact hde
  have any : ∀ (md : Region.Mode) (ord : List Nat), chkTopo md ops ord [] = true → (∀ e, Region.binds .any e = true → Region.binds md e = true) → ∀ t', wpOps P ops Q (Region.linearise md ops t') a { w with drawn := w.drawn + 1 } := by
    intro md ord htopo hmd t'
    refine wpAny_sound ops.size t' _ a _ ?_
    refine any_order hR md htopo hmd (K := K) hQ ops.size (Array.replicate ops.size false) (by simp) (by rw [hleft]; simp) (fun j hj => ?_) β _ a _ hdrew hn hd (by rw [hleft]; exact hD) (by rw [hleft]; exact hwr)
    exfalso
    simp only [Array.getD_eq_getD_getElem?, Array.getElem?_replicate] at hj
    split at hj <;> simp at hj
  simp only [chkDraw, Bool.and_eq_true, Bool.or_eq_true] at hc
  obtain ⟨⟨_, h4⟩, h5⟩ := hc
  unfold Region.schedule
  split
  · exact any .any _ h4 (fun _ h => h) t
  · rename_i hm
    simp only [Bool.or_eq_true, Bool.not_eq_true', not_or, Bool.not_eq_false, Bool.not_eq_true] at hm
    rcases h5 with h5 | h5
    · simp [hm.2] at h5
    · split
      · exact any .text _ h5.1 (fun e h => by cases hg : e.ground <;> simp_all [Region.binds]) _
      · exact any .gc _ h5.2 (fun e h => by cases hg : e.ground <;> simp_all [Region.binds]) _
theorem pwp_sound : ∀ (pc : PCode) (c : Code), chkC P n c pc = true → ∀ (K : Ex → PS → Prop) (Q : Exit → Act → World → Prop),
    (∀ e β s a w, Sim O w0 A0 β s (tmf a) w → a.tmps.size = n → a.defers = [] → K e s → Q (exOf e) a w) →
    ∀ β s a w, Sim O w0 A0 β s (tmf a) w → a.tmps.size = n → a.defers = [] → pwp (PCallG P) pc s K → c.wp P Q a w := by
  intro pc
  induction pc with
  | skip =>
    intro c hc K Q hQ β s a w h hn hd hw
    unfold chkC at hc
    split at hc <;> (try (cases hc; done))
    exact wp_skip (hQ .n β s a w h hn hd hw)
  | ops dr l =>
    intro c hc K Q hQ β s a w h hn hd hw
    unfold chkC at hc
    split at hc <;> (try (cases hc; done))
    rename_i id ops draw
    simp only [Bool.and_eq_true, beq_iff_eq] at hc
    obtain ⟨rfl, hc⟩ := hc
    simp only [pwp] at hw
    cases dr with
    | false =>
      simp only [Bool.false_eq_true, if_false] at hc hw
      obtain ⟨hl, _⟩ := chkOps_get hc
      refine wp_region ?_
      have := seq_ops (O := O) (A0 := A0) (w0 := w0) hc (K := K .n) (Q := Q) (fun β s a w h hn hd hK => hQ .n β s a w h hn hd hK) l.length 0 (by simp) β s a w h hn hd (by simpa using hw)
      · rw [← List.range_eq_range'] at this
        have e : ops.size = l.length := by simpa using hl
        rw [e]
        exact this
    | true =>
      simp only [if_true] at hc hw
      exact draw_sound hc (fun β s a w h hn hd hK => hQ .n β s a w h hn hd hK) h hn hd (wpLB_of_wpL _ _ _ hw)
  | opsB l on =>
    intro c hc K Q hQ β s a w h hn hd hw
    unfold chkC at hc
    split at hc <;> (try (cases hc; done))
    rename_i id ops draw
    simp only [Bool.and_eq_true] at hc
    obtain ⟨rfl, hc⟩ := hc
    exact draw_sound hc (fun β s a w h hn hd hK => hQ .n β s a w h hn hd hK) h hn hd hw
  | seq p q ihp ihq =>
    intro c hc K Q hQ β s a w h hn hd hw
    unfold chkC at hc
    split at hc <;> (try (cases hc; done))
    simp only [Bool.and_eq_true] at hc
    refine wp_seq (ihp _ hc.1 _ _ (fun e β s a w h hn hd hK => ?_) β s a w h hn hd hw)
    cases e with
    | n => exact ihq _ hc.2 K Q hQ β s a w h hn hd hK
    | x id => exact hQ (.x id) β s a w h hn hd hK
    | r => exact hQ .r β s a w h hn hd hK
  | cond x p q ihp ihq =>
    intro c hc K Q hQ β s a w h hn hd hw
    unfold chkC at hc
    split at hc <;> (try (cases hc; done))
    simp only [Bool.and_eq_true] at hc
    obtain ⟨⟨h0, h1⟩, h2⟩ := hc
    have hR := ev_R h h0
    simp only [pwp] at hw
    split at hw
    · rename_i t ht
      rw [ht] at hR
      refine wp_cond_split (V.bool_inv hR) (fun e => ?_) fun e => ?_
      · exact ihp _ h1 K Q hQ β s a w h hn hd (hw.1 e)
      · exact ihq _ h2 K Q hQ β s a w h hn hd (hw.2 e)
    · exact hw.elim
  | block id p ih =>
    intro c hc K Q hQ β s a w h hn hd hw
    unfold chkC at hc
    split at hc <;> (try (cases hc; done))
    simp only [Bool.and_eq_true, decide_eq_true_eq] at hc
    obtain ⟨rfl, h1⟩ := hc
    refine wp_block (ih _ h1 _ _ (fun e β s a w h hn hd hK => ?_) β s a w h hn hd hw)
    cases e with
    | n => exact hQ .n β s a w h hn hd hK
    | x j =>
      simp only [Ex.blk] at hK
      simp only [exOf, Exit.inBlock]
      split at hK
      · rename_i hj; rw [if_pos hj]; exact hQ .n β s a w h hn hd hK
      · rename_i hj; rw [if_neg hj]; exact hQ (.x j) β s a w h hn hd hK
    | r => exact hQ .r β s a w h hn hd hK
  | loop p ih =>
    intro c hc K Q hQ β s a w h hn hd hw
    unfold chkC at hc
    split at hc <;> (try (cases hc; done))
    rename_i body
    have := hw (fun s => ∀ β a w, Sim O w0 A0 β s (tmf a) w → a.tmps.size = n → a.defers = [] → InLoop P body Q a w) (fun s hs β a w h hn hd => by
      refine inLoop_of (ih body hc _ _ (fun e β s a w h hn hd hK => ?_) β s a w h hn hd hs)
      cases e with
      | n => exact hK β a w h hn hd
      | x j => exact hQ (.x j) β s a w h hn hd hK
      | r => exact hQ .r β s a w h hn hd hK)
    intro b k cs
    obtain ⟨e, a', w', hq, harr⟩ := this β a w h hn hd b k cs
    exact ⟨e, a', w', hq, .of_steps (.one step_loop) harr⟩
  | exit id =>
    intro c hc K Q hQ β s a w h hn hd hw
    unfold chkC at hc
    split at hc <;> (try (cases hc; done))
    obtain rfl := of_decide_eq_true hc
    exact wp_exit (hQ (.x _) β s a w h hn hd hw)
  | ret =>
    intro c hc K Q hQ β s a w h hn hd hw
    unfold chkC at hc
    split at hc <;> (try (cases hc; done))
    exact wp_ret (hQ .r β s a w h hn hd hw)
  | fz i p ih =>
    intro c hc K Q hQ β s a w h hn hd hw
    unfold chkC at hc
    simp only [pwp] at hw
    split at hw
    · rename_i d ver off len hi
      split at hw
      · rename_i v hv
        exact ih c hc K Q hQ β _ a w (h.fz hi hv) hn hd hw
      · exact hw.elim
    · exact ih c hc K Q hQ β s a w h hn hd hw
    · exact hw.elim
  | rn i e p ih =>
    intro c hc K Q hQ β s a w h hn hd hw
    unfold chkC at hc
    simp only [pwp] at hw
    split at hw
    · rename_i d ver off len hi
      by_cases hde : d = e
      · exact ih c hc K Q hQ β s a w h hn hd (hw.1 hde)
      · have h2 := hw.2 hde
        split at h2
        · rename_i v sz es hb
          obtain ⟨⟨rfl, rfl, hl⟩, h2⟩ := h2
          exact ih c hc K Q hQ _ _ a w (h.rn hi hb hde hl) hn hd h2
        · exact h2.elim
    · exact hw.elim
end
end Go.Pl
/-
  A GO FUNCTION's CONTRACT OUT OF ITS PLAIN CODE. My own work.
-/
namespace Go.Pl
open Go
set_option linter.unusedVariables false
set_option linter.unusedSimpArgs false
inductive RS where
  | t (i : Nat)
  | cell (i : Nat) (f : Bool) (n : Nat)
  deriving Inhabited
def rsVal (s : PS) : RS → Option CV
  | .t i => s.close (s.t i)
  | .cell i f n => match s.t i with
    | .ptr d ver off => match s.bx d with
      | ⟨v, .var cs⟩ => if v = ver ∧ off + n ≤ cs.length then some (rdc f n (cs.drop off)) else none
      | _ => none
    | _ => none
def rsVals (s : PS) : List RS → Option (List CV)
  | [] => some []
  | r :: l => match rsVal s r, rsVals s l with
    | some v, some vs => some (v :: vs)
    | _, _ => none
def one_ : List CV → CV
  | [v] => v
  | l => .tup l
def Fin (rs : List RS) (r : RV) (s : PS) : Prop :=
  match r with
  | .c v => ∃ vals, rsVals s rs = some vals ∧ v = one_ vals
  | .own sz es => ∃ i d ver n, rs = [.t i] ∧ s.t i = .osl d ver 0 n ∧ s.bx d = ⟨ver, .sl sz es⟩ ∧ n = es.length
def FinK (rs : List RS) (r : RV) : Ex → PS → Prop
  | .x _, _ => False
  | _, s => Fin rs r s
def chkRes (P : Program) : List ResultVar → List RS → Bool
  | [], [] => true
  | .tmp t :: l, .t i :: m => decide (t = i) && chkRes P l m
  | .cell x t :: l, .cell i f n :: m => decide (x = i) && (match P.underlying t, P.info? t with
      | some d, some j => (d.isRow == f) && decide (j.size = n) && (f || decide (n = 1))
      | _, _ => false) && chkRes P l m
  | _, _ => false
def noIo : List AV → Bool
  | [] => true
  | .io _ :: _ => false
  | _ :: l => noIo l
section
variable {O A0 : Nat → Prop} {w0 w : World} {β : Bt} {s : PS} {a : Act} {P : Program}
theorem close_V (h : Sim O w0 A0 β s (tmf a) w) {pv : PV} {v : Value} (hR : R w (Nn O β s.bx) β s.bx v pv) {c : CV} (hc : s.close pv = some c) {N' : Nat → Prop} (hN : ∀ b, N' b → O b) : V w N' v c := by
  unfold PS.close at hc
  split at hc
  · obtain rfl := Option.some.inj hc
    exact V.ext (.of_less fun b hb => .inl (hN b hb)) hR
  · rename_i d ver off len
    split at hc
    · rename_i q sz es hb
      split at hc
      · rename_i hcond
        obtain ⟨rfl, rfl, hl⟩ := hcond
        obtain rfl := Option.some.inj hc
        have hB := h.boxes d
        rw [hb] at hB
        have hV := close_own h (d := d) (sz := sz) (es := es) (by rw [hb]) (hdr_of hR hb hl hB) q
        exact V.ext (.of_less fun b hb => .inl (hN b hb)) hV
      · cases hc
    · cases hc
  · cases hc
def rvf (a : Act) : ResultVar → Sem Value
  | .tmp t => pure (a.tmps.getD t undef)
  | .cell x t => do loadVar t (← asAddr (a.tmps.getD x undef))
theorem results_eq (fn : Func) (a : Act) : results fn a.tmps = (do let vs ← fn.results.mapM (rvf a); pure (if h : vs.size = 1 then vs[0] else .tuple vs)) := by
  unfold results
  congr 1
theorem result_V (h : Sim O w0 A0 β s (tmf a) w) {N' : Nat → Prop} (hN : ∀ b, N' b → O b) {rv : ResultVar} {r : RS} (hc : chkRes P [rv] [r] = true) {c : CV} (hv : rsVal s r = some c) :
    ∃ v, (rvf a rv).run P w = .ok v w ∧ V w N' v c := by
  cases rv with
  | tmp t =>
    cases r with
    | t i =>
      simp only [chkRes, Bool.and_eq_true, decide_eq_true_eq] at hc
      obtain ⟨rfl, _⟩ := hc
      exact ⟨_, rfl, close_V h (h.temps t) hv hN⟩
    | cell i f n => simp [chkRes] at hc
  | cell x t =>
    cases r with
    | t i => simp [chkRes] at hc
    | cell i f n =>
      simp only [chkRes, Bool.and_eq_true, decide_eq_true_eq] at hc
      obtain ⟨⟨rfl, hc⟩, _⟩ := hc
      split at hc <;> (try (cases hc; done))
      rename_i d j hu hi
      simp only [Bool.and_eq_true, Bool.or_eq_true, decide_eq_true_eq, beq_iff_eq] at hc
      obtain ⟨⟨h1, h2⟩, h3⟩ := hc
      simp only [rsVal] at hv
      split at hv
      · rename_i d' ver off ht
        split at hv
        · rename_i q cs hb
          split at hv
          · rename_i hcond
            obtain ⟨rfl, hl⟩ := hcond
            obtain rfl := Option.some.inj hv
            have hR := h.temps x
            rw [ht] at hR
            obtain ⟨b, base, hβ, he⟩ := hR.2 (by rw [hb]) cs (.inl (by rw [hb]))
            have hB := h.boxes d'
            rw [hb] at hB
            obtain ⟨b', base', hp', _, hcs⟩ := hB
            rw [hβ] at hp'
            obtain ⟨rfl, rfl⟩ := Prod.mk.inj (Option.some.inj hp')
            obtain ⟨v, hr, hV⟩ := run_load_cells (P := P) t d j hu hi h2 f h1 (fun e => h3.resolve_left (by rw [e]; simp)) (hcs.drop off) (by simp; omega)
            refine ⟨v, ?_, V.ext (.of_less fun b hb => .inl (hN b hb)) hV⟩
            have he' : a.tmps.getD x undef = .pointer (some ⟨b, base + off, none⟩) := he
            simp only [Instr.loadAt, Instr.sureAddr, Sem.run_bind, Sem.run_pure, Result.andThen_ok] at hr
            simp only [rvf, he', asAddr, Sem.run_bind, Sem.run_pure, Result.andThen_ok, hr]
          · cases hv
        · cases hv
      · cases hv
theorem results_V (h : Sim O w0 A0 β s (tmf a) w) {N' : Nat → Prop} (hN : ∀ b, N' b → O b) : ∀ (rvs : List ResultVar) (rs : List RS) (cs : List CV), chkRes P rvs rs = true → rsVals s rs = some cs →
    ∃ vs : List Value, (rvs.mapM (rvf a)).run P w = .ok vs w ∧ vs.length = cs.length ∧ ∀ (i : Nat) (h1 : i < vs.length) (h2 : i < cs.length), V w N' vs[i] cs[i]
  | [], [], cs, _, hv => by
    obtain rfl := Option.some.inj hv
    exact ⟨[], by simp, rfl, fun i h => by simp at h⟩
  | [], _ :: _, _, hc, _ => by simp [chkRes] at hc
  | rv :: _, [], _, hc, _ => by cases rv <;> simp [chkRes] at hc
  | rv :: rvs, r :: rs, cs, hc, hv => by
    have hc1 : chkRes P [rv] [r] = true ∧ chkRes P rvs rs = true := by
      cases rv <;> cases r <;> simp only [chkRes, Bool.and_eq_true, reduceCtorEq, Bool.false_eq_true] at hc ⊢
      · exact ⟨⟨hc.1, trivial⟩, hc.2⟩
      · exact ⟨⟨hc.1, trivial⟩, hc.2⟩
    simp only [rsVals] at hv
    split at hv
    · rename_i c cs' hv1 hv2
      obtain rfl := Option.some.inj hv
      obtain ⟨v, hr, hV⟩ := result_V h hN hc1.1 hv1
      obtain ⟨vs, hrs, hl, hVs⟩ := results_V h hN rvs rs cs' hc1.2 hv2
      refine ⟨v :: vs, ?_, by simp [hl], fun i h1 h2 => ?_⟩
      · rw [List.mapM_cons]
        simp only [Sem.run_bind, hr, Result.andThen_ok, hrs, Sem.run_pure]
      · cases i with
        | zero => exact hV
        | succ i => exact hVs i (by simpa using h1) (by simpa using h2)
    · cases hv
theorem noIo_get : ∀ {args : List AV}, noIo args = true → ∀ (i : Nat) (cs : List CV), args[i]? ≠ some (AV.io cs)
  | [], _, i, cs => by simp
  | .c v :: l, h, 0, cs => by simp
  | .own sz es :: l, h, 0, cs => by simp
  | .io _ :: l, h, i, cs => by cases h
  | .c v :: l, h, i + 1, cs => by simpa using noIo_get (args := l) h i cs
  | .own sz es :: l, h, i + 1, cs => by simpa using noIo_get (args := l) h i cs
theorem ret_dead {args : List AV} (hno : noIo args = true) {r : RV} {outs : List (List CV)} {i : Nat} (hi : i ≠ args.length) : ((retPS args r outs).bx i).st = .dead := by
  simp only [retPS, if_neg hi]
  have := noIo_get hno i
  cases ha : args[i]? with
  | none => rfl
  | some av =>
    cases av with
    | io cs => exact absurd ha (this cs)
    | _ => rfl
theorem pcall {f : FuncId} {fn : Func} {c : Code} {pc : PCode} {rs : List RS} {args : List AV} {r : RV} (hf : P.funcs[f]? = some fn) (hb : fn.body = some c) (hc : chkC P fn.ntmps c pc = true) (hr : chkRes P fn.results.toList rs = true)
    (ha : args.length ≤ fn.ntmps) (hno : noIo args = true) (h : pwp (PCallG P) pc (initPS args) (FinK rs r)) : PCallG P f args r [] := by
  intro w O A β vs hsz hS
  refine calls_of_wp hf hb ?_
  have htm : tmf { tmps := vs ++ Array.replicate (fn.ntmps - vs.size) undef, defers := [] } = fun i => vs.getD i undef := by
    funext i
    simp only [tmf, Array.getD_eq_getD_getElem?]
    by_cases hi : i < vs.size
    · rw [Array.getElem?_append_left hi]
    · rw [Array.getElem?_append_right (by omega), Array.getElem?_eq_none (xs := vs) (by omega), Array.getElem?_replicate]
      split <;> rfl
  refine pwp_sound (O := O) (A0 := A) (w0 := w) pc c hc (FinK rs r) _ (fun e β' s a w' hS' hn hd hK => ?_) β (initPS args) _ w (by rw [htm]; exact hS) (by simp; omega) rfl h
  have fin : Fin rs r s → a.defers = [] ∧ ∃ v, (results fn a.tmps).run P w' = .ok v w' ∧ ∃ v' β', Ending.returned v = .returned v' ∧ Sim O w A β' (retPS args r []) (fun i => if i = args.length then v' else undef) w' ∧ ∀ i cs, args[i]? = some (.io cs) → β' i = β i := by
    intro hF
    refine ⟨hd, ?_⟩
    cases r with
    | c v =>
      obtain ⟨cs, hcs, rfl⟩ := hF
      obtain ⟨xs, hxs, hl, hV⟩ := results_V hS' (N' := O) (fun b hb => hb) fn.results.toList rs cs hr hcs
      have hmap : (fn.results.mapM (rvf a)).run P w' = .ok xs.toArray w' := by
        rw [Array.mapM_eq_mapM_toList, Sem.run_map, hxs]
        rfl
      have hsim : ∀ v, V w' O v (one_ cs) → Sim O w A (fun _ => none) (retPS args (.c (one_ cs)) []) (fun i => if i = args.length then v else undef) w' := by
        intro v hv
        have hdead : ∀ i, ((retPS args (.c (one_ cs)) []).bx i).st = .dead := by
          intro i
          by_cases hi : i = args.length
          · simp [retPS, hi]
          · exact ret_dead hno hi
        refine ⟨hS'.os, hS'.tape, hS'.output, hS'.size, hS'.keep, fun i => ?_, fun d => (by rw [hdead]; trivial), fun d d' p p' _ ho => (by rw [hdead] at ho; cases ho), fun d p ho => (by rw [hdead] at ho; cases ho), hS'.outer⟩
        by_cases hi : i = args.length
        · simp only [hi, if_true, retPS]
          exact V.ext (.of_less fun b hb => by
            rcases hb with hb | ⟨_, _, _, hb⟩
            · exact hb
            · cases hb) hv
        · simp only [if_neg hi, retPS]; trivial
      by_cases h1 : xs.length = 1
      · obtain ⟨x, rfl⟩ : ∃ x, xs = [x] := by
          cases xs with
          | nil => simp at h1
          | cons x l => cases l with
            | nil => exact ⟨x, rfl⟩
            | cons y l => simp at h1
        obtain ⟨c0, rfl⟩ : ∃ c0, cs = [c0] := by
          cases cs with
          | nil => simp at hl
          | cons c0 l => cases l with
            | nil => exact ⟨c0, rfl⟩
            | cons y l => simp at hl
        refine ⟨x, ?_, x, _, rfl, hsim x (hV 0 (by simp) (by simp)), fun i cs hi => absurd hi (noIo_get hno i cs)⟩
        rw [results_eq]
        simp only [Sem.run_bind]
        rw [hmap]
        rfl
      · refine ⟨.tuple xs.toArray, ?_, _, _, rfl, hsim _ ?_, fun i cs hi => absurd hi (noIo_get hno i cs)⟩
        · rw [results_eq]
          simp only [Sem.run_bind]
          rw [hmap]
          simp only [Result.andThen_ok, Sem.run_pure]
          rw [dif_neg (by simpa using h1)]
        · have : one_ cs = .tup cs := by
            cases cs with
            | nil => rfl
            | cons c0 l => cases l with
              | nil => simp at hl; omega
              | cons y l => rfl
          rw [this]
          exact V.tup _ _ (by simpa using hl) (fun i h1 h2 => by have := hV i (by simpa using h1) h2; simpa using this)
    | own sz es =>
      obtain ⟨i, d, ver, n, rfl, ht, hbx, hn'⟩ := hF
      have hrs : ∃ t, fn.results.toList = [.tmp t] ∧ t = i := by
        cases hq : fn.results.toList with
        | nil => rw [hq] at hr; simp [chkRes] at hr
        | cons rv l =>
          rw [hq] at hr
          cases rv with
          | cell x t => simp [chkRes] at hr
          | tmp t =>
            simp only [chkRes, Bool.and_eq_true, decide_eq_true_eq] at hr
            cases l with
            | nil => exact ⟨t, rfl, hr.1⟩
            | cons _ _ => simp [chkRes] at hr
      obtain ⟨t, hres, rfl⟩ := hrs
      have hR := hS'.temps t
      rw [ht] at hR
      have hB := hS'.boxes d
      rw [hbx] at hB
      have hH := hdr_of hR hbx hn' hB
      have howned : (s.bx d).st.owned = true := by rw [hbx]; rfl
      have hbl : (retPS args (.own sz es) []).bx args.length = ⟨0, .sl sz es⟩ := by simp [retPS]
      have hless : ∀ b, Nn O (fun i => if i = args.length then β' d else none) (retPS args (.own sz es) []).bx b → Nn O β' s.bx b := by
        rintro b (hb | ⟨j, base, ho, hj⟩)
        · exact .inl hb
        · by_cases e : j = args.length
          · subst e; simp only [if_true] at hj; exact .inr ⟨d, base, howned, hj⟩
          · simp only [if_neg e] at hj; cases hj
      refine ⟨a.tmps.getD t undef, ?_, _, fun i => if i = args.length then β' d else none, rfl, ?_, fun i cs hi => absurd hi (noIo_get hno i cs)⟩
      · have hres' : fn.results = #[.tmp t] := by
          have := congrArg List.toArray hres
          simpa using this
        rw [results_eq]
        rw [hres']
        simp [Sem.run_bind, rvf]
      · refine ⟨hS'.os, hS'.tape, hS'.output, hS'.size, hS'.keep, fun j => ?_, fun j => ?_, fun j k p q hjk hj hk hp hq => ?_, fun j p hj hp => ?_, hS'.outer⟩
        · by_cases e : j = args.length
          · subst e
            simp only [if_true]
            have htl : (retPS args (.own sz es) []).t args.length = .osl args.length 0 0 es.length := by simp [retPS]
            rw [htl]
            refine ⟨Nat.zero_le _, fun _ sz2 es2 hs2 => ⟨rfl, ?_⟩⟩
            rw [hbl] at hs2
            cases hs2
            simp only [if_true]
            rcases hH with ⟨h1, h2, h3⟩ | ⟨b, cap, h1, h2, h3, h4⟩
            · exact .inl ⟨h1, h2, by rw [h3]; rfl⟩
            · exact .inr ⟨b, cap, h1, h2, h3, h4⟩
          · have htl : (retPS args (.own sz es) []).t j = .junk := by simp [retPS, e]
            rw [htl]
            trivial
        · by_cases e : j = args.length
          · subst e
            rw [hbl]
            simp only [if_true]
            refine ⟨hB.1, ?_⟩
            rcases hB.2 with hb | ⟨b, hp, ho, hcc⟩
            · exact .inl hb
            · exact .inr ⟨b, hp, ho, fun i hi => (hcc i hi).ext (.of_less hless) rfl⟩
          · rw [ret_dead hno e]; trivial
        · by_cases e : j = args.length
          · by_cases e' : k = args.length
            · exact absurd (e.trans e'.symm) hjk
            · rw [ret_dead hno e'] at hk; cases hk
          · rw [ret_dead hno e] at hj; cases hj
        · by_cases e : j = args.length
          · simp only [if_pos e] at hp; exact hS'.out d p howned hp
          · rw [ret_dead hno e] at hj; cases hj
  cases e with
  | n => exact fin hK
  | x id => exact hK.elim
  | r => exact fin hK
def chkF (P : Program) (fn : Func) (np : Nat) (pc : PCode) (rs : List RS) : Bool :=
  match fn.body with
  | some c => chkC P fn.ntmps c pc && (chkRes P fn.results.toList rs && Nat.ble np fn.ntmps)
  | none => false
theorem pcallF {f : FuncId} {fn : Func} {pc : PCode} {rs : List RS} {args : List AV} {r : RV} (hf : P.funcs[f]? = some fn) (hc : chkF P fn args.length pc rs = true) (hno : noIo args = true)
    (h : wP (PCallG P) pc (initPS args) (FinK rs r)) : PCallG P f args r [] := by
  unfold chkF at hc
  split at hc
  · rename_i c hb
    simp only [Bool.and_eq_true] at hc
    exact pcall hf hb hc.1 hc.2.1 (Nat.le_of_ble_eq_true hc.2.2) hno (by simpa only [wP] using h)
  · cases hc
theorem rv_nil {s : PS} : rsVals s [] = some [] := rfl
theorem rv_t {s : PS} {i : Nat} {v : CV} {l : List RS} {vs : List CV} (h : s.close (s.t i) = some v) (hl : rsVals s l = some vs) : rsVals s (.t i :: l) = some (v :: vs) := by
  simp only [rsVals, rsVal, h, hl]
theorem rv_own {s : PS} {i d ver n sz : Nat} {es : List (List CV)} {l : List RS} {vs : List CV} (h : s.t i = .osl d ver 0 n) (hb : s.bx d = ⟨ver, .sl sz es⟩) (hn : n = es.length) (hl : rsVals s l = some vs) : rsVals s (.t i :: l) = some (.sl es :: vs) := by
  simp only [rsVals, rsVal, PS.close, h, hb, true_and, if_pos hn, hl]
theorem rv_cell {s : PS} {i d ver off n : Nat} {f : Bool} {cs : List CV} {v : CV} {l : List RS} {vs : List CV} (h : s.t i = .ptr d ver off) (hb : s.bx d = ⟨ver, .var cs⟩) (hn : Nat.ble (off + n) cs.length = true) (hv : rdc f n (cs.drop off) = v)
    (hl : rsVals s l = some vs) : rsVals s (.cell i f n :: l) = some (v :: vs) := by
  subst hv
  simp only [rsVals, rsVal, h, hb, true_and, if_pos (Nat.le_of_ble_eq_true hn), hl]
theorem fin_r {rs : List RS} {vals : List CV} {v : CV} {s : PS} (h : rsVals s rs = some vals) (e : v = one_ vals) : FinK rs (.c v) .r s := ⟨vals, h, e⟩
theorem fin_own {i d ver n : Nat} {sz : Nat} {es : List (List CV)} {s : PS} (h : s.t i = .osl d ver 0 n) (hb : s.bx d = ⟨ver, .sl sz es⟩) (hn : n = es.length) : FinK [.t i] (.own sz es) .r s := ⟨i, d, ver, n, rfl, h, hb, hn⟩
end
end Go.Pl
/-
  WHAT A ROW HANDS IN READS AS CLOSED VALUES; what a contract says behind the call. My own work.
-/
namespace Go.Pl
open Go Go.WideShapes Go.RowKit
set_option linter.unusedVariables false
set_option linter.unusedSimpArgs false
inductive LF where
  | int (k : IntKind)
  | bool
  | str
  | sl (l : List LF)
  deriving Inhabited
def catO {α : Type} : List (Option (List α)) → Option (List α)
  | [] => some []
  | x :: l => match x, catO l with
    | some a, some b => some (a ++ b)
    | _, _ => none
def offsOk (P : Program) : Nat → List Field → Bool
  | _, [] => true
  | o, f :: l => decide (f.offset = o) && offsOk P (o + P.cellsOf f.type) l
def flatT (P : Program) : Nat → TypeId → Option (List LF)
  | 0, _ => none
  | n + 1, t => Option.bind (α := List LF) (match P.underlying t with
    | some .bool => some [.bool]
    | some (.int k) => some [.int k]
    | some .string => some [.str]
    | some (.slice e) => (flatT P n e).bind fun l => if l.length = 0 then none else some [.sl l]
    | some (.struct fs) => if offsOk P 0 fs.toList then catO (fs.toList.map fun f => flatT P n f.type) else none
    | some (.array len e) => catO (List.replicate len (flatT P n e))
    | _ => none) fun l => if P.cellsOf t = l.length then some l else none
inductive LF.Ok : LF → CV → Prop
  | int (k : IntKind) (n : Int) (h : (Lit.int k n).wf = true) : Ok (.int k) (.int k n)
  | bool (b : Bool) : Ok .bool (.bool b)
  | str (s : ByteArray) (h : s.size ≤ maxLen) : Ok .str (.str s)
  | sl (l : List LF) (es : List (List CV)) (hn : es.length ≤ maxLen) (hl : ∀ e ∈ es, e.length = l.length)
      (h : ∀ e ∈ es, ∀ (i : Nat) (h1 : i < l.length) (h2 : i < e.length), Ok l[i] e[i]) : Ok (.sl l) (.sl es)
structure OkL (l : List LF) (cs : List CV) : Prop where
  len : cs.length = l.length
  each : ∀ (i : Nat) (h1 : i < l.length) (h2 : i < cs.length), LF.Ok l[i] cs[i]
theorem LF.Ok.one {l : LF} {c : CV} (h : LF.Ok l c) : c.one = true := by cases h <;> rfl
structure RowV (w : World) (sh : List LF) (vs : List Value) (cs : List CV) : Prop where
  ok : OkL sh cs
  len : vs.length = cs.length
  each : ∀ (i : Nat) (h1 : i < vs.length) (h2 : i < cs.length), V w (fun _ => False) vs[i] cs[i]
theorem RowV.nil (w : World) : RowV w [] [] [] := ⟨⟨rfl, fun i h => by simp at h⟩, rfl, fun i h => by simp at h⟩
theorem RowV.single {w : World} {l : LF} {v : Value} {c : CV} (h : LF.Ok l c) (hv : V w (fun _ => False) v c) : RowV w [l] [v] [c] :=
  ⟨⟨rfl, fun i h1 h2 => by
    obtain rfl : i = 0 := by simp at h1; omega
    exact h⟩, rfl, fun i h1 h2 => by
    obtain rfl : i = 0 := by simp at h1; omega
    exact hv⟩
theorem RowV.append {w : World} {a b : List LF} {vs us : List Value} {cs ds : List CV} (h : RowV w a vs cs) (k : RowV w b us ds) : RowV w (a ++ b) (vs ++ us) (cs ++ ds) := by
  have h1 := h.ok.len
  have h2 := h.len
  refine ⟨⟨by simp [h.ok.len, k.ok.len], fun i hi hj => ?_⟩, by simp [h.len, k.len], fun i hi hj => ?_⟩
  · by_cases e : i < a.length
    · rw [List.getElem_append_left e, List.getElem_append_left (by omega)]; exact h.ok.each i e (by omega)
    · rw [List.getElem_append_right (by omega), List.getElem_append_right (by omega)]
      simp only [h1]
      exact k.ok.each _ (by simp at hi; omega) (by simp at hj; omega)
  · by_cases e : i < cs.length
    · rw [List.getElem_append_left (by omega), List.getElem_append_left e]; exact h.each i (by omega) e
    · rw [List.getElem_append_right (by omega), List.getElem_append_right (by omega)]
      simp only [h2]
      exact k.each _ (by simp at hi; omega) (by simp at hj; omega)
section
variable {H : Type} {enc : TypeId × Value → H} {P : Program} {w : World} {base : Nat} {spare : Nat → Bool} {held : Bool}
theorem flatT_len {n : Nat} {t : TypeId} {sh : List LF} (h : flatT P n t = some sh) : P.cellsOf t = sh.length := by
  cases n with
  | zero => simp [flatT] at h
  | succ n =>
    unfold flatT at h
    obtain ⟨l, _, h⟩ := Option.bind_eq_some_iff.1 h
    split at h
    · obtain rfl := Option.some.inj h; assumption
    · cases h
theorem rowV_pieces {n : Nat} : ∀ (ts : List TypeId) (o : Nat) (cs : List Value) (sh : List LF), catO (ts.map fun t => flatT P n t) = some sh → cs.length = o + sh.length →
    (∀ (i : Nat) (t : TypeId), ts[i]? = some t → ∀ l, flatT P n t = some l → ∃ ds, RowV w l ((cs.drop (o + ((ts.take i).map P.cellsOf).sum)).take (P.cellsOf t)) ds) →
    ∃ ds, RowV w sh (cs.drop o) ds
  | [], o, cs, sh, hs, hl, _ => by
    obtain rfl := Option.some.inj hs
    have : cs.drop o = [] := List.drop_eq_nil_iff.2 (by simpa using Nat.le_of_eq hl)
    rw [this]
    exact ⟨_, .nil w⟩
  | t :: ts, o, cs, sh, hs, hl, h => by
    simp only [List.map_cons, catO] at hs
    split at hs
    · rename_i a b ha hb
      obtain rfl := Option.some.inj hs
      obtain ⟨ds, hd⟩ := h 0 t rfl a ha
      simp only [List.take_zero, List.map_nil, List.sum_nil, Nat.add_zero] at hd
      obtain ⟨es, he⟩ := rowV_pieces ts (o + P.cellsOf t) cs b hb (by rw [flatT_len ha]; simp at hl; omega) (fun i u hu l hlu => by
        have := h (i + 1) u (by simpa using hu) l hlu
        simpa [Nat.add_assoc] using this)
      have := hd.append he
      refine ⟨ds ++ es, ?_⟩
      have e : (cs.drop o).take (P.cellsOf t) ++ cs.drop (o + P.cellsOf t) = cs.drop o := by
        rw [← List.drop_drop, List.take_append_drop]
      rw [e] at this
      exact this
    · cases hs
theorem offs_sum : ∀ (fs : List Field) (o : Nat), offsOk P o fs = true → ∀ (i : Nat) (f : Field), fs[i]? = some f → f.offset = o + (((fs.map (·.type)).take i).map P.cellsOf).sum
  | [], o, _, i, f, hf => by simp at hf
  | g :: fs, o, h, 0, f, hf => by
    simp only [offsOk, Bool.and_eq_true, decide_eq_true_eq] at h
    obtain rfl : g = f := by simpa using hf
    simpa using h.1
  | g :: fs, o, h, i + 1, f, hf => by
    simp only [offsOk, Bool.and_eq_true, decide_eq_true_eq] at h
    have := offs_sum fs _ h.2 i f (by simpa using hf)
    simp only [List.map_cons, List.take_succ_cons, List.sum_cons]
    omega
theorem sum_rep (n k : Nat) : ((List.replicate n k)).sum = n * k := by
  induction n with
  | zero => simp
  | succ n ih => simp [List.replicate_succ, ih, Nat.add_mul]; omega
theorem trod_V : ∀ (n fuel : Nat) (t : TypeId) (cs : List Value) (x : DataW H × List MemPlace) (sh : List LF), flatT P n t = some sh → DataW.trod enc P w base spare held fuel t cs = some x → ∃ ds, RowV w sh cs ds := by
  intro n
  induction n with
  | zero => intro fuel t cs x sh h; simp [flatT] at h
  | succ n ih =>
    intro fuel t cs x sh hf h
    have hlen := flatT_len hf
    unfold flatT at hf
    obtain ⟨l, hl, hf⟩ := Option.bind_eq_some_iff.1 hf
    obtain rfl : l = sh := by
      split at hf
      · exact Option.some.inj hf
      · cases hf
    split at hl
    · rename_i hu
      obtain rfl := Option.some.inj hl
      obtain ⟨b, rfl, _⟩ := DataW.trod_bool hu h
      exact ⟨_, .single (.bool b) (.bool b)⟩
    · rename_i k hu
      obtain rfl := Option.some.inj hl
      obtain ⟨z, rfl, _, hw⟩ := DataW.trod_int hu h
      exact ⟨_, .single (.int k z hw) (.int k z)⟩
    · rename_i hu
      obtain rfl := Option.some.inj hl
      obtain ⟨s, rfl, _, hw⟩ := DataW.trod_string hu h
      exact ⟨_, .single (.str s hw) (.str s)⟩
    · rename_i e hu
      obtain ⟨le, hle, hl⟩ := Option.bind_eq_some_iff.1 hl
      split at hl
      · cases hl
      rename_i hne
      obtain rfl := Option.some.inj hl
      rcases DataW.trod_slice hu h with ⟨rfl, _⟩ | ⟨a, len, cap, elems, rest, m, _, rfl, _, _, hlc, hcm, hel, hget, _, _⟩
      · exact ⟨_, .single (.sl le [] (by simp [maxLen]) (by simp) (by simp)) .nil⟩
      · have hce := flatT_len hle
        have each : ∀ i, i < len → ∃ cs', w.cells? base (a.add (i * P.cellsOf e)) (P.cellsOf e) = some cs' ∧ ∃ ds, RowV w le cs' ds := by
          intro i hi
          have h1 := hget i hi
          rw [List.getElem?_eq_getElem (by omega)] at h1
          obtain ⟨cs', h2, h3⟩ := Option.bind_eq_some_iff.1 h1
          exact ⟨cs', h2, ih _ _ _ _ _ hle h3⟩
        by_cases h0 : len = 0
        · subst h0
          exact ⟨_, .single (.sl le [] (by simp [maxLen]) (by simp) (by simp)) (.emp a cap)⟩
        have hz0 : P.cellsOf e ≠ 0 := by omega
        · have hex : ∀ i : _root_.Fin len, ∃ p : List Value × List CV, w.cells? base (a.add (i.1 * P.cellsOf e)) (P.cellsOf e) = some p.1 ∧ RowV w le p.1 p.2 := fun i => by
            obtain ⟨cs', h1, ds, h2⟩ := each i.1 i.2
            exact ⟨(cs', ds), h1, h2⟩
          obtain ⟨g, hg⟩ : ∃ g : Nat → List Value × List CV, ∀ i, i < len → w.cells? base (a.add (i * P.cellsOf e)) (P.cellsOf e) = some (g i).1 ∧ RowV w le (g i).1 (g i).2 :=
            ⟨fun i => if hi : i < len then Classical.choose (hex ⟨i, hi⟩) else ([], []), fun i hi => by simp only [dif_pos hi]; exact Classical.choose_spec (hex ⟨i, hi⟩)⟩
          have hcell : ∀ i j, i < len → j < P.cellsOf e → w.cell? ((a.add (i * P.cellsOf e)).add j) = some ((g i).1.getD j undef) := by
            intro i j hi hj
            obtain ⟨_, q1, q2⟩ := World.cells?_some (hg i hi).1
            rw [q2 j hj, List.getElem?_eq_getElem (by omega)]
            simp [List.getD, show j < (g i).1.length by omega]
          obtain ⟨b, off, sp⟩ := a
          have hsp : sp = none := by
            have := hcell 0 0 (by omega) (by omega)
            have := World.cell?_spot this
            simpa [Addr.add] using this
          subst hsp
          have hb : b < w.heap.size := by
            have := World.block_lt_of_cell? w _ (hcell 0 0 (by omega) (by omega))
            simpa [Addr.add] using this
          have hdl : ∀ i, i < len → (g i).2.length = P.cellsOf e := fun i hi => by rw [(hg i hi).2.ok.len, hce]
          have hvl : ∀ i, i < len → (g i).1.length = P.cellsOf e := fun i hi => by rw [(hg i hi).2.len, hdl i hi]
          refine ⟨[.sl ((List.range len).map fun i => (g i).2)], .single (.sl le _ (by simp; omega) ?_ ?_) ?_⟩
          · intro q hq
            obtain ⟨i, hi, rfl⟩ := List.mem_map.1 hq
            exact (hg i (List.mem_range.1 hi)).2.ok.len
          · intro q hq
            obtain ⟨i, hi, rfl⟩ := List.mem_map.1 hq
            exact (hg i (List.mem_range.1 hi)).2.ok.each
          · have hlen' : ((List.range len).map fun i => (g i).2).length = len := by simp
            have := V.sl (w := w) (N := fun _ => False) b off cap (P.cellsOf e) ((List.range len).map fun i => (g i).2) (fun i j => (g i).1.getD j undef) hb (fun h => h)
              (fun q hq => by
                obtain ⟨i, hi, rfl⟩ := List.mem_map.1 hq
                exact hdl i (List.mem_range.1 hi))
              (by omega)
              (fun q hq c hc => by
                obtain ⟨i, hi, rfl⟩ := List.mem_map.1 hq
                obtain ⟨j, hj, rfl⟩ := List.getElem_of_mem hc
                have hi' := List.mem_range.1 hi
                have := hdl i hi'
                exact ((hg i hi').2.ok.each j (by omega) hj).one)
              (fun i j hi hj => by
                have hi' : i < len := by simpa using hi
                have hj' : j < P.cellsOf e := by
                  have := hdl i hi'
                  simp at hj; omega
                have := hcell i j hi' hj'
                rw [Addr.add_mid, Addr.add_mid] at this
                rw [← this, Nat.add_assoc])
              (fun i j hi hj => by
                have hi' : i < len := by simpa using hi
                have hj' : j < (g i).2.length := by simpa using hj
                have h1 := hdl i hi'
                have h2 := hvl i hi'
                have := (hg i hi').2.each j (by omega) hj'
                simpa [List.getD, show j < (g i).1.length by omega] using this)
            rw [hlen'] at this
            exact this
    · rename_i fs hu
      split at hl
      · rename_i hoff
        obtain ⟨xs, m, _, _, hcl, hxl, hget⟩ := DataW.trod_struct hu h
        have := rowV_pieces (P := P) (w := w) (n := n) (fs.toList.map (·.type)) 0 cs l (by rw [List.map_map]; exact hl) (by omega) (fun i t ht lt hlt => by
          obtain ⟨f, hf, rfl⟩ : ∃ f, fs.toList[i]? = some f ∧ f.type = t := by
            rw [List.getElem?_map] at ht
            obtain ⟨f, hf, e⟩ := Option.map_eq_some_iff.1 ht
            exact ⟨f, hf, e⟩
          have ho := offs_sum fs.toList 0 hoff i f hf
          have h1 := hget i f (by simpa using hf)
          have hix : i < xs.length := by
            have := (List.getElem?_eq_some_iff.1 hf).1
            simp at this; omega
          rw [List.getElem?_eq_getElem hix] at h1
          rw [← ho]
          exact ih _ _ _ _ _ hlt h1)
        simpa using this
      · cases hl
    · rename_i k e hu
      obtain ⟨xs, m, _, _, hcl, hxl, hget⟩ := DataW.trod_array hu h
      have := rowV_pieces (P := P) (w := w) (n := n) (List.replicate k e) 0 cs l (by rw [List.map_replicate]; exact hl) (by omega) (fun i t ht lt hlt => by
        have hik : i < k := by
          have := (List.getElem?_eq_some_iff.1 ht).1
          simpa using this
        obtain rfl : e = t := by
          rw [List.getElem?_replicate, if_pos hik] at ht
          exact Option.some.inj ht
        have h1 := hget i hik
        rw [List.getElem?_eq_getElem (by omega)] at h1
        have e1 : (0 + (((List.replicate k e).take i).map P.cellsOf).sum) = i * P.cellsOf e := by
          rw [List.take_replicate, List.map_replicate, sum_rep, Nat.min_eq_left (by omega)]; omega
        rw [e1]
        exact ih _ _ _ _ _ hlt h1)
      simpa using this
    · cases hl
theorem row_leaf {b0 : Nat} {r : Reach} {t : TypeId} {v : Value} {d : DataW H} {p : List MemPlace} (n : Nat) {l : LF} (hf : flatT P n t = some [l]) (hl : (match P.underlying t with | some (.struct _) | some (.array _ _) => false | _ => true) = true)
    (hok : Value.okWide P w r b0 t v) (h : DataW.Trod enc P w base spare held t v d p) : ∃ c, LF.Ok l c ∧ V w (fun _ => False) v c := by
  obtain ⟨fuel, h⟩ := h
  have hv : v.cells = #[v] := by
    cases v with
    | agg xs => 
      simp only [Value.okWide] at hok
      split at hl
      · cases hl
      · cases hl
      · split at hok
        · simp_all
        · simp_all
        · simp only [Cell.okWide] at hok
          split at hok <;> first | (rename_i hq; cases hq; done) | simp_all [Cell.ok]
    | tuple xs => rfl
    | _ => rfl
  rw [hv] at h
  obtain ⟨ds, hd⟩ := trod_V n fuel t _ _ _ hf h
  have h1 := hd.ok.len
  match ds, h1, hd with
  | [c], _, hd => exact ⟨c, hd.ok.each 0 (by simp) (by simp), hd.each 0 (by simp) (by simp)⟩
theorem row_agg {b0 : Nat} {r : Reach} {t : TypeId} {v : Value} {d : DataW H} {p : List MemPlace} (n : Nat) {sh : List LF} (hf : flatT P n t = some sh) (hl : (match P.underlying t with | some (.struct _) | some (.array _ _) => true | _ => false) = true)
    (hok : Value.okWide P w r b0 t v) (h : DataW.Trod enc P w base spare held t v d p) : ∃ cs, OkL sh cs ∧ V w (fun _ => False) v (.agg cs) := by
  obtain ⟨fuel, h⟩ := h
  obtain ⟨xs, rfl⟩ : ∃ xs, v = .agg xs := by
    simp only [Value.okWide] at hok
    split at hl
    · rename_i hu; rw [hu] at hok; obtain ⟨xs, h, _⟩ := hok; exact ⟨xs, h⟩
    · rename_i hu; rw [hu] at hok; obtain ⟨xs, h, _⟩ := hok; exact ⟨xs, h⟩
    · cases hl
  obtain ⟨ds, hd⟩ := trod_V n fuel t _ _ _ hf h
  refine ⟨ds, hd.ok, .agg xs ds (by have := hd.len; simpa [Value.cells] using this) (fun c hc => ?_) (fun i h1 h2 => ?_)⟩
  · obtain ⟨j, hj, rfl⟩ := List.getElem_of_mem hc
    exact (hd.ok.each j (by have := hd.ok.len; omega) hj).one
  · have := hd.each i (by simpa [Value.cells] using h1) h2
    simpa [Value.cells] using this
theorem pcall_row {f : FuncId} {cs : List CV} {vs : Array Value} {r : CV} (hC : PCallG P f (cs.map .c) (.c r) []) (hn : vs.size = cs.length) (hV : ∀ (i : Nat) (h1 : i < vs.size) (h2 : i < cs.length), V w (fun _ => False) vs[i] cs[i]) :
    Calls P f vs w fun e w' => ∃ v, e = .returned v ∧ V w' (fun _ => False) v r ∧ Below w.heap.size w w' := by
  have hno : ∀ i, ((initPS (cs.map AV.c)).bx i).st.owned = false := by
    intro i
    simp only [initPS, List.getElem?_map]
    cases hc : cs[i]? <;> rfl
  have hS : Sim (fun _ => False) w (fun _ => False) (fun _ => none) (initPS (cs.map .c)) (fun i => vs.getD i undef) w := by
    refine ⟨rfl, rfl, rfl, Nat.le_refl _, fun _ _ _ => rfl, fun i => ?_, fun d => ?_, fun d d' p p' _ ho => (by rw [hno d] at ho; cases ho), fun d p ho => (by rw [hno d] at ho; cases ho), fun b hb => hb.elim⟩
    · by_cases hi : i < cs.length
      · have : (initPS (cs.map AV.c)).t i = .c cs[i] := by simp [initPS, hi]
        rw [this]
        have hv : vs.getD i undef = vs[i]'(by omega) := by simp [show i < vs.size by omega]
        rw [hv]
        exact (hV i (by omega) hi).ext (.of_less fun b hb => by
          rcases hb with hb | ⟨_, _, ho, _⟩
          · exact hb
          · rw [hno] at ho; cases ho)
      · have : (initPS (cs.map AV.c)).t i = .undef := by simp [initPS, hi]
        rw [this]
        show vs.getD i undef = undef
        simp [show ¬ i < vs.size by omega]
    · have : ((initPS (cs.map AV.c)).bx d).st = .dead := by
        simp only [initPS, List.getElem?_map]
        cases hc : cs[d]? <;> rfl
      rw [this]
      trivial
  refine (hC w (fun _ => False) (fun _ => False) (fun _ => none) vs (by simpa using hn) hS).mono ?_
  rintro e w' ⟨v, β', rfl, hS', _⟩
  refine ⟨v, rfl, ?_, hS'.os, hS'.tape, hS'.output, hS'.size, fun k hk => hS'.keep k hk (fun h => h)⟩
  have ht := hS'.temps (cs.map AV.c).length
  simp only [retPS, if_true] at ht
  exact V.ext (.of_less fun b hb => hb.elim) ht
end
end Go.Pl
/-
  THE WALK OF A PLAIN CODE, more steps. My own work.
-/
namespace Go.Pl
set_option linter.unusedSimpArgs false
section
variable {C : CallP} {l : List POp} {s : PS} {K : PS → Prop} {d : Nat} {x y z : PO} {k : IntKind} {a b n m : Int}
end
end Go.Pl

/- Part 5 of the proof of BagTells: lemmas. -/
import Derived.Test.YtcmejdkjfekoeaaBagTellsJ4
/-
  A GO FUNCTION's CONTRACT OUT OF ITS PLAIN CODE. My own work.
-/
namespace Go.Pl
open Go
set_option linter.unusedVariables false
set_option linter.unusedSimpArgs false
inductive RS where
  | t (i : Nat)
  | cell (i : Nat) (f : Bool) (n : Nat)
  deriving Inhabited
def rsVal (s : PS) : RS → Option CV
  | .t i => s.close (s.t i)
  | .cell i f n => match s.t i with
    | .ptr d ver off => match s.bx d with
      | ⟨v, .var cs⟩ => if v = ver ∧ off + n ≤ cs.length then some (rdc f n (cs.drop off)) else none
      | _ => none
    | _ => none
def rsVals (s : PS) : List RS → Option (List CV)
  | [] => some []
  | r :: l => match rsVal s r, rsVals s l with
    | some v, some vs => some (v :: vs)
    | _, _ => none
def one_ : List CV → CV
  | [v] => v
  | l => .tup l
def Fin (rs : List RS) (r : RV) (s : PS) : Prop :=
  match r with
  | .c v => ∃ vals, rsVals s rs = some vals ∧ v = one_ vals
  | .own sz es => ∃ i d ver n, rs = [.t i] ∧ s.t i = .osl d ver 0 n ∧ s.bx d = ⟨ver, .sl sz es⟩ ∧ n = es.length
def FinK (rs : List RS) (r : RV) : Ex → PS → Prop
  | .x _, _ => False
  | _, s => Fin rs r s
def chkRes (P : Program) : List ResultVar → List RS → Bool
  | [], [] => true
  | .tmp t :: l, .t i :: m => decide (t = i) && chkRes P l m
  | .cell x t :: l, .cell i f n :: m => decide (x = i) && (match P.underlying t, P.info? t with
      | some d, some j => (d.isRow == f) && decide (j.size = n) && (f || decide (n = 1))
      | _, _ => false) && chkRes P l m
  | _, _ => false
def noIo : List AV → Bool
  | [] => true
  | .io _ :: _ => false
  | _ :: l => noIo l
section
variable {O A0 : Nat → Prop} {w0 w : World} {β : Bt} {s : PS} {a : Act} {P : Program}
theorem close_V (h : Sim O w0 A0 β s (tmf a) w) {pv : PV} {v : Value} (hR : R w (Nn O β s.bx) β s.bx v pv) {c : CV} (hc : s.close pv = some c) {N' : Nat → Prop} (hN : ∀ b, N' b → O b) : V w N' v c := by
  unfold PS.close at hc
  split at hc
  · obtain rfl := Option.some.inj hc
    exact V.ext (.of_less fun b hb => .inl (hN b hb)) hR
  · rename_i d ver off len
    split at hc
    · rename_i q sz es hb
      split at hc
      · rename_i hcond
        obtain ⟨rfl, rfl, hl⟩ := hcond
        obtain rfl := Option.some.inj hc
        have hB := h.boxes d
        rw [hb] at hB
        have hV := close_own h (d := d) (sz := sz) (es := es) (by rw [hb]) (hdr_of hR hb hl hB) q
        exact V.ext (.of_less fun b hb => .inl (hN b hb)) hV
      · cases hc
    · cases hc
  · cases hc
/-- what 'results' reads for one result -/
def rvf (a : Act) : ResultVar → Sem Value
  | .tmp t => pure (a.tmps.getD t undef)
  | .cell x t => do loadVar t (← asAddr (a.tmps.getD x undef))
theorem results_eq (fn : Func) (a : Act) : results fn a.tmps = (do let vs ← fn.results.mapM (rvf a); pure (if h : vs.size = 1 then vs[0] else .tuple vs)) := by
  unfold results
  congr 1
theorem result_V (h : Sim O w0 A0 β s (tmf a) w) {N' : Nat → Prop} (hN : ∀ b, N' b → O b) {rv : ResultVar} {r : RS} (hc : chkRes P [rv] [r] = true) {c : CV} (hv : rsVal s r = some c) :
    ∃ v, (rvf a rv).run P w = .ok v w ∧ V w N' v c := by
  cases rv with
  | tmp t =>
    cases r with
    | t i =>
      simp only [chkRes, Bool.and_eq_true, decide_eq_true_eq] at hc
      obtain ⟨rfl, _⟩ := hc
      exact ⟨_, rfl, close_V h (h.temps t) hv hN⟩
    | cell i f n => simp [chkRes] at hc
  | cell x t =>
    cases r with
    | t i => simp [chkRes] at hc
    | cell i f n =>
      simp only [chkRes, Bool.and_eq_true, decide_eq_true_eq] at hc
      obtain ⟨⟨rfl, hc⟩, _⟩ := hc
      split at hc <;> (try (cases hc; done))
      rename_i d j hu hi
      simp only [Bool.and_eq_true, Bool.or_eq_true, decide_eq_true_eq, beq_iff_eq] at hc
      obtain ⟨⟨h1, h2⟩, h3⟩ := hc
      simp only [rsVal] at hv
      split at hv
      · rename_i d' ver off ht
        split at hv
        · rename_i q cs hb
          split at hv
          · rename_i hcond
            obtain ⟨rfl, hl⟩ := hcond
            obtain rfl := Option.some.inj hv
            have hR := h.temps x
            rw [ht] at hR
            obtain ⟨b, base, hβ, he⟩ := hR.2 (by rw [hb]) cs (.inl (by rw [hb]))
            have hB := h.boxes d'
            rw [hb] at hB
            obtain ⟨b', base', hp', _, hcs⟩ := hB
            rw [hβ] at hp'
            obtain ⟨rfl, rfl⟩ := Prod.mk.inj (Option.some.inj hp')
            obtain ⟨v, hr, hV⟩ := run_load_cells (P := P) t d j hu hi h2 f h1 (fun e => h3.resolve_left (by rw [e]; simp)) (hcs.drop off) (by simp; omega)
            refine ⟨v, ?_, V.ext (.of_less fun b hb => .inl (hN b hb)) hV⟩
            have he' : a.tmps.getD x undef = .pointer (some ⟨b, base + off, none⟩) := he
            simp only [Instr.loadAt, Instr.sureAddr, Sem.run_bind, Sem.run_pure, Result.andThen_ok] at hr
            simp only [rvf, he', asAddr, Sem.run_bind, Sem.run_pure, Result.andThen_ok, hr]
          · cases hv
        · cases hv
      · cases hv
theorem results_V (h : Sim O w0 A0 β s (tmf a) w) {N' : Nat → Prop} (hN : ∀ b, N' b → O b) : ∀ (rvs : List ResultVar) (rs : List RS) (cs : List CV), chkRes P rvs rs = true → rsVals s rs = some cs →
    ∃ vs : List Value, (rvs.mapM (rvf a)).run P w = .ok vs w ∧ vs.length = cs.length ∧ ∀ (i : Nat) (h1 : i < vs.length) (h2 : i < cs.length), V w N' vs[i] cs[i]
  | [], [], cs, _, hv => by
    obtain rfl := Option.some.inj hv
    exact ⟨[], by simp, rfl, fun i h => by simp at h⟩
  | [], _ :: _, _, hc, _ => by simp [chkRes] at hc
  | rv :: _, [], _, hc, _ => by cases rv <;> simp [chkRes] at hc
  | rv :: rvs, r :: rs, cs, hc, hv => by
    have hc1 : chkRes P [rv] [r] = true ∧ chkRes P rvs rs = true := by
      cases rv <;> cases r <;> simp only [chkRes, Bool.and_eq_true, reduceCtorEq, Bool.false_eq_true] at hc ⊢
      · exact ⟨⟨hc.1, trivial⟩, hc.2⟩
      · exact ⟨⟨hc.1, trivial⟩, hc.2⟩
    simp only [rsVals] at hv
    split at hv
    · rename_i c cs' hv1 hv2
      obtain rfl := Option.some.inj hv
      obtain ⟨v, hr, hV⟩ := result_V h hN hc1.1 hv1
      obtain ⟨vs, hrs, hl, hVs⟩ := results_V h hN rvs rs cs' hc1.2 hv2
      refine ⟨v :: vs, ?_, by simp [hl], fun i h1 h2 => ?_⟩
      · rw [List.mapM_cons]
        simp only [Sem.run_bind, hr, Result.andThen_ok, hrs, Sem.run_pure]
      · cases i with
        | zero => exact hV
        | succ i => exact hVs i (by simpa using h1) (by simpa using h2)
    · cases hv
theorem noIo_get : ∀ {args : List AV}, noIo args = true → ∀ (i : Nat) (cs : List CV), args[i]? ≠ some (AV.io cs)
  | [], _, i, cs => by simp
  | .c v :: l, h, 0, cs => by simp
  | .own sz es :: l, h, 0, cs => by simp
  | .io _ :: l, h, i, cs => by cases h
  | .c v :: l, h, i + 1, cs => by simpa using noIo_get (args := l) h i cs
  | .own sz es :: l, h, i + 1, cs => by simpa using noIo_get (args := l) h i cs
theorem ret_dead {args : List AV} (hno : noIo args = true) {r : RV} {outs : List (List CV)} {i : Nat} (hi : i ≠ args.length) : ((retPS args r outs).bx i).st = .dead := by
  simp only [retPS, if_neg hi]
  have := noIo_get hno i
  cases ha : args[i]? with
  | none => rfl
  | some av =>
    cases av with
    | io cs => exact absurd ha (this cs)
    | _ => rfl
/-- THE RULE: a function's plain code, walked from its arguments, ends with 'r'. -/
theorem pcall {f : FuncId} {fn : Func} {c : Code} {pc : PCode} {rs : List RS} {args : List AV} {r : RV} (hf : P.funcs[f]? = some fn) (hb : fn.body = some c) (hc : chkC P fn.ntmps c pc = true) (hr : chkRes P fn.results.toList rs = true)
    (ha : args.length ≤ fn.ntmps) (hno : noIo args = true) (h : pwp (PCallG P) pc (initPS args) (FinK rs r)) : PCallG P f args r [] := by
  intro w O A β vs hsz hS
  refine calls_of_wp hf hb ?_
  have htm : tmf { tmps := vs ++ Array.replicate (fn.ntmps - vs.size) undef, defers := [] } = fun i => vs.getD i undef := by
    funext i
    simp only [tmf, Array.getD_eq_getD_getElem?]
    by_cases hi : i < vs.size
    · rw [Array.getElem?_append_left hi]
    · rw [Array.getElem?_append_right (by omega), Array.getElem?_eq_none (xs := vs) (by omega), Array.getElem?_replicate]
      split <;> rfl
  refine pwp_sound (O := O) (A0 := A) (w0 := w) pc c hc (FinK rs r) _ (fun e β' s a w' hS' hn hd hK => ?_) β (initPS args) _ w (by rw [htm]; exact hS) (by simp; omega) rfl h
  have fin : Fin rs r s → a.defers = [] ∧ ∃ v, (results fn a.tmps).run P w' = .ok v w' ∧ ∃ v' β', Ending.returned v = .returned v' ∧ Sim O w A β' (retPS args r []) (fun i => if i = args.length then v' else undef) w' ∧ ∀ i cs, args[i]? = some (.io cs) → β' i = β i := by
    intro hF
    refine ⟨hd, ?_⟩
    cases r with
    | c v =>
      obtain ⟨cs, hcs, rfl⟩ := hF
      obtain ⟨xs, hxs, hl, hV⟩ := results_V hS' (N' := O) (fun b hb => hb) fn.results.toList rs cs hr hcs
      have hmap : (fn.results.mapM (rvf a)).run P w' = .ok xs.toArray w' := by
        rw [Array.mapM_eq_mapM_toList, Sem.run_map, hxs]
        rfl
      have hsim : ∀ v, V w' O v (one_ cs) → Sim O w A (fun _ => none) (retPS args (.c (one_ cs)) []) (fun i => if i = args.length then v else undef) w' := by
        intro v hv
        have hdead : ∀ i, ((retPS args (.c (one_ cs)) []).bx i).st = .dead := by
          intro i
          by_cases hi : i = args.length
          · simp [retPS, hi]
          · exact ret_dead hno hi
        refine ⟨hS'.os, hS'.tape, hS'.output, hS'.size, hS'.keep, fun i => ?_, fun d => (by rw [hdead]; trivial), fun d d' p p' _ ho => (by rw [hdead] at ho; cases ho), fun d p ho => (by rw [hdead] at ho; cases ho), hS'.outer⟩
        by_cases hi : i = args.length
        · simp only [hi, if_true, retPS]
          exact V.ext (.of_less fun b hb => by
            rcases hb with hb | ⟨_, _, _, hb⟩
            · exact hb
            · cases hb) hv
        · simp only [if_neg hi, retPS]; trivial
      by_cases h1 : xs.length = 1
      · obtain ⟨x, rfl⟩ : ∃ x, xs = [x] := by
          cases xs with
          | nil => simp at h1
          | cons x l => cases l with
            | nil => exact ⟨x, rfl⟩
            | cons y l => simp at h1
        obtain ⟨c0, rfl⟩ : ∃ c0, cs = [c0] := by
          cases cs with
          | nil => simp at hl
          | cons c0 l => cases l with
            | nil => exact ⟨c0, rfl⟩
            | cons y l => simp at hl
        refine ⟨x, ?_, x, _, rfl, hsim x (hV 0 (by simp) (by simp)), fun i cs hi => absurd hi (noIo_get hno i cs)⟩
        rw [results_eq]
        simp only [Sem.run_bind]
        rw [hmap]
        rfl
      · refine ⟨.tuple xs.toArray, ?_, _, _, rfl, hsim _ ?_, fun i cs hi => absurd hi (noIo_get hno i cs)⟩
        · rw [results_eq]
          simp only [Sem.run_bind]
          rw [hmap]
          simp only [Result.andThen_ok, Sem.run_pure]
          rw [dif_neg (by simpa using h1)]
        · have : one_ cs = .tup cs := by
            cases cs with
            | nil => rfl
            | cons c0 l => cases l with
              | nil => simp at hl; omega
              | cons y l => rfl
          rw [this]
          exact V.tup _ _ (by simpa using hl) (fun i h1 h2 => by have := hV i (by simpa using h1) h2; simpa using this)
    | own sz es =>
      obtain ⟨i, d, ver, n, rfl, ht, hbx, hn'⟩ := hF
      have hrs : ∃ t, fn.results.toList = [.tmp t] ∧ t = i := by
        cases hq : fn.results.toList with
        | nil => rw [hq] at hr; simp [chkRes] at hr
        | cons rv l =>
          rw [hq] at hr
          cases rv with
          | cell x t => simp [chkRes] at hr
          | tmp t =>
            simp only [chkRes, Bool.and_eq_true, decide_eq_true_eq] at hr
            cases l with
            | nil => exact ⟨t, rfl, hr.1⟩
            | cons _ _ => simp [chkRes] at hr
      obtain ⟨t, hres, rfl⟩ := hrs
      have hR := hS'.temps t
      rw [ht] at hR
      have hB := hS'.boxes d
      rw [hbx] at hB
      have hH := hdr_of hR hbx hn' hB
      have howned : (s.bx d).st.owned = true := by rw [hbx]; rfl
      have hbl : (retPS args (.own sz es) []).bx args.length = ⟨0, .sl sz es⟩ := by simp [retPS]
      have hless : ∀ b, Nn O (fun i => if i = args.length then β' d else none) (retPS args (.own sz es) []).bx b → Nn O β' s.bx b := by
        rintro b (hb | ⟨j, base, ho, hj⟩)
        · exact .inl hb
        · by_cases e : j = args.length
          · subst e; simp only [if_true] at hj; exact .inr ⟨d, base, howned, hj⟩
          · simp only [if_neg e] at hj; cases hj
      refine ⟨a.tmps.getD t undef, ?_, _, fun i => if i = args.length then β' d else none, rfl, ?_, fun i cs hi => absurd hi (noIo_get hno i cs)⟩
      · have hres' : fn.results = #[.tmp t] := by
          have := congrArg List.toArray hres
          simpa using this
        rw [results_eq]
        rw [hres']
        simp [Sem.run_bind, rvf]
      · refine ⟨hS'.os, hS'.tape, hS'.output, hS'.size, hS'.keep, fun j => ?_, fun j => ?_, fun j k p q hjk hj hk hp hq => ?_, fun j p hj hp => ?_, hS'.outer⟩
        · by_cases e : j = args.length
          · subst e
            simp only [if_true]
            have htl : (retPS args (.own sz es) []).t args.length = .osl args.length 0 0 es.length := by simp [retPS]
            rw [htl]
            refine ⟨Nat.zero_le _, fun _ sz2 es2 hs2 => ⟨rfl, ?_⟩⟩
            rw [hbl] at hs2
            cases hs2
            simp only [if_true]
            rcases hH with ⟨h1, h2, h3⟩ | ⟨b, cap, h1, h2, h3, h4⟩
            · exact .inl ⟨h1, h2, by rw [h3]; rfl⟩
            · exact .inr ⟨b, cap, h1, h2, h3, h4⟩
          · have htl : (retPS args (.own sz es) []).t j = .junk := by simp [retPS, e]
            rw [htl]
            trivial
        · by_cases e : j = args.length
          · subst e
            rw [hbl]
            simp only [if_true]
            refine ⟨hB.1, ?_⟩
            rcases hB.2 with hb | ⟨b, hp, ho, hcc⟩
            · exact .inl hb
            · exact .inr ⟨b, hp, ho, fun i hi => (hcc i hi).ext (.of_less hless) rfl⟩
          · rw [ret_dead hno e]; trivial
        · by_cases e : j = args.length
          · by_cases e' : k = args.length
            · exact absurd (e.trans e'.symm) hjk
            · rw [ret_dead hno e'] at hk; cases hk
          · rw [ret_dead hno e] at hj; cases hj
        · by_cases e : j = args.length
          · simp only [if_pos e] at hp; exact hS'.out d p howned hp
          · rw [ret_dead hno e] at hj; cases hj
  cases e with
  | n => exact fin hK
  | x id => exact hK.elim
  | r => exact fin hK
/-- the checks of one function, as one -/
def chkF (P : Program) (fn : Func) (np : Nat) (pc : PCode) (rs : List RS) : Bool :=
  match fn.body with
  | some c => chkC P fn.ntmps c pc && (chkRes P fn.results.toList rs && Nat.ble np fn.ntmps)
  | none => false
theorem pcallF {f : FuncId} {fn : Func} {pc : PCode} {rs : List RS} {args : List AV} {r : RV} (hf : P.funcs[f]? = some fn) (hc : chkF P fn args.length pc rs = true) (hno : noIo args = true)
    (h : wP (PCallG P) pc (initPS args) (FinK rs r)) : PCallG P f args r [] := by
  unfold chkF at hc
  split at hc
  · rename_i c hb
    simp only [Bool.and_eq_true] at hc
    exact pcall hf hb hc.1 hc.2.1 (Nat.le_of_ble_eq_true hc.2.2) hno (by simpa only [wP] using h)
  · cases hc
theorem rv_nil {s : PS} : rsVals s [] = some [] := rfl
theorem rv_t {s : PS} {i : Nat} {v : CV} {l : List RS} {vs : List CV} (h : s.close (s.t i) = some v) (hl : rsVals s l = some vs) : rsVals s (.t i :: l) = some (v :: vs) := by
  simp only [rsVals, rsVal, h, hl]
theorem rv_own {s : PS} {i d ver n sz : Nat} {es : List (List CV)} {l : List RS} {vs : List CV} (h : s.t i = .osl d ver 0 n) (hb : s.bx d = ⟨ver, .sl sz es⟩) (hn : n = es.length) (hl : rsVals s l = some vs) : rsVals s (.t i :: l) = some (.sl es :: vs) := by
  simp only [rsVals, rsVal, PS.close, h, hb, true_and, if_pos hn, hl]
theorem rv_cell {s : PS} {i d ver off n : Nat} {f : Bool} {cs : List CV} {v : CV} {l : List RS} {vs : List CV} (h : s.t i = .ptr d ver off) (hb : s.bx d = ⟨ver, .var cs⟩) (hn : Nat.ble (off + n) cs.length = true) (hv : rdc f n (cs.drop off) = v)
    (hl : rsVals s l = some vs) : rsVals s (.cell i f n :: l) = some (v :: vs) := by
  subst hv
  simp only [rsVals, rsVal, h, hb, true_and, if_pos (Nat.le_of_ble_eq_true hn), hl]
theorem fin_r {rs : List RS} {vals : List CV} {v : CV} {s : PS} (h : rsVals s rs = some vals) (e : v = one_ vals) : FinK rs (.c v) .r s := ⟨vals, h, e⟩
theorem fin_n {rs : List RS} {vals : List CV} {v : CV} {s : PS} (h : rsVals s rs = some vals) (e : v = one_ vals) : FinK rs (.c v) .n s := ⟨vals, h, e⟩
theorem fin_own {i d ver n : Nat} {sz : Nat} {es : List (List CV)} {s : PS} (h : s.t i = .osl d ver 0 n) (hb : s.bx d = ⟨ver, .sl sz es⟩) (hn : n = es.length) : FinK [.t i] (.own sz es) .r s := ⟨i, d, ver, n, rfl, h, hb, hn⟩
end
end Go.Pl

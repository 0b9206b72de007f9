/-
  ONE OPERATION OF A REGION, AS THE MODEL RUNS IT, AND THE PLAIN STEP. My own work.
-/
import Derived.Test.YtcmejdkjfekoeaaPlCall
namespace Go.Pl
open Go
set_option linter.unusedVariables false

def chkCall (P : Program) (o : Oper) (f : FuncId) (args : List PO) : Bool :=
  match o.op with
  | .call ⟨.value (.func f'), cargs, _⟩ => decide (f' = f) && chkPOs cargs.toList args && match P.funcs[f]? with
    | some fn => decide (fn.name ≠ "runtime.NumGoroutine") && fn.body.isSome
    | none => false
  | _ => false

def chkG (ops : Array Oper) (g : Option (Nat × Bool)) (g' : Option (Nat × Bool)) : Bool :=
  match g, g' with
  | none, none => true
  | some (j, w), some (t, w') => (w == w') && decide ((ops[j]?).bind (·.dst) = some t)
  | _, _ => false

def chkP (P : Program) (n : Nat) (ops : Array Oper) (o : Oper) (p : POp) : Bool :=
  decide (o.dst = p.dst) && (match o.dst with | some d => decide (d < n) | none => true) && chkG ops o.guard p.g &&
    (match p.k with
    | .call _ f args => chkCall P o f args
    | k => chkK P o k)

section
variable {O A0 : Nat → Prop} {w0 w : World} {β : Bt} {s : PS} {a : Act} {P : Program}

theorem put_size (a : Act) (d : Option Tmp) (v : Value) : (a.put d v).tmps.size = a.tmps.size := by
  cases d <;> simp [Act.put]
theorem put_defers (a : Act) (d : Option Tmp) (v : Value) : (a.put d v).defers = a.defers := by
  cases d <;> rfl

theorem exec_call {o : Oper} {f : FuncId} {cargs : Array Operand} {tys : Array TypeId} (ho : o.op = .call ⟨.value (.func f), cargs, tys⟩) {fn : Func} (hf : P.funcs[f]? = some fn) (hn : fn.name ≠ "runtime.NumGoroutine") (hb : fn.body.isSome = true) :
    (execOp a.eval o).run P w = .ok (.enter f (cargs.map a.eval)) w := by
  unfold execOp
  simp [ho, resolve, Act.eval, Deferred.ofValue, invoke, callFunc, program, Sem.run_bind, Sem.run, hf]
  rw [if_neg hn, if_neg (by intro h; simp [h] at hb)]

/-- the model's operation goes on to 'next', for whatever the plain one goes on to -/
theorem op_wp {ops : Array Oper} {o : Oper} {p : POp} {n : Nat} (hc : (match p.k with | .call _ f args => chkCall P o f args | k => chkK P o k) = true) (hdst : o.dst = p.dst) (hd : dstOk o.dst a.tmps.size)
    (h : Sim O w0 A0 β s (tmf a) w) {K : PS → Prop} (hw : wpK (PCallG P) p s K) {next : Act → World → Prop} {Q : Exit → Act → World → Prop}
    (hnext : ∀ β' s' v w', Sim O w0 A0 β' s' (tmf (a.put o.dst v)) w' → K s' → next (a.put o.dst v) w') : o.wp P a w next Q := by
  have plain : ∀ k, chkK P o k = true → (match pstep p.dst s k with | some s' => K s' | none => False) → o.wp P a w next Q := by
    intro k hk hs
    cases hp : pstep p.dst s k with
    | none => rw [hp] at hs; exact hs.elim
    | some s' =>
      rw [hp] at hs
      rw [← hdst] at hp
      obtain ⟨nx, v, w', β', hr, hnx, hS⟩ := chkK_ok hk h hd hp
      unfold Oper.wp
      rw [hr]
      rcases hnx with rfl | ⟨rfl, rfl⟩
      · exact hnext _ _ _ _ hS hs
      · exact hnext _ _ _ _ hS hs
  obtain ⟨pd, pk, pg⟩ := p
  simp only at hc hdst
  cases pk
  case call m f args =>
    simp only [chkCall] at hc
    split at hc <;> (try (cases hc; done))
    rename_i f' cargs tys ho
    simp only [Bool.and_eq_true, decide_eq_true_eq] at hc
    obtain ⟨⟨rfl, hargs⟩, hc⟩ := hc
    split at hc <;> (try (cases hc; done))
    rename_i fn hf
    simp only [Bool.and_eq_true, decide_eq_true_eq] at hc
    unfold Oper.wp
    rw [exec_call ho hf hc.1 hc.2]
    simp only [wpK, wpCall] at hw
    show Calls P f' (cargs.map a.eval) w _
    split at hw
    · -- all closed
      split at hw <;> (try (exact hw.elim))
      rename_i cs hcs
      obtain ⟨r, hC, hK⟩ := hw
      obtain ⟨hl, hV⟩ := evcs_V h hargs hcs
      refine (hC w _ _ _ (cargs.map a.eval) (by simpa using hl) (sim_initC h (by simpa using hl) (fun i h1 h2 => by have := hV i (by simpa using h1) h2; simpa using this))).mono ?_
      rintro e w' ⟨v, β', rfl, hS, _⟩
      obtain ⟨hS', hVr⟩ := back_C h hS
      exact hnext _ _ v _ (hS'.putO o.dst (by simpa using hd) (.c r) v hVr) (by rw [hdst]; exact hK)
    · -- the first one handed over, or lent
      rename_i x l
      obtain ⟨cl⟩ := cargs
      cases cl with
      | nil => cases hargs
      | cons cx cl =>
      simp only [chkPOs, Bool.and_eq_true] at hargs
      have hargv : (⟨cx :: cl⟩ : Array Operand).map a.eval = (a.eval cx :: cl.map a.eval).toArray := by simp
      rw [hargv]
      have hR := ev_R h hargs.1
      split at hw <;> (try (exact hw.elim))
      · rename_i d ver off len cs hx hcs
        rw [hx] at hR
        obtain ⟨hl, hV⟩ := evcs_V h hargs.2 hcs
        split at hw <;> (try (exact hw.elim))
        rename_i v sz es hb
        obtain ⟨⟨rfl, rfl, hlen⟩, r, hrd, hC, hK⟩ := hw
        have hown : (s.bx d).st.owned = true := by rw [hb]; rfl
        have hB := h.boxes d
        rw [hb] at hB
        have hH := hdr_of hR hb hlen hB
        have hinit := sim_init1 h (d0 := d) (av := .own sz es) (by rw [hb]; rfl) hown (v0 := a.eval cx) (vs := cl.map a.eval) (by simpa using hl) (fun i h1 h2 => by have := hV i (by simpa using h1) h2; simpa using this) (by
          refine ⟨Nat.le_refl _, fun _ sz2 es2 hs2 => ⟨rfl, ?_⟩⟩
          have : (initPS (AV.own sz es :: List.map AV.c cs)).bx 0 = ⟨0, .sl sz es⟩ := rfl
          rw [this] at hs2
          cases hs2
          simp only [if_true]
          rcases hH with ⟨h1, h2, h3⟩ | ⟨b, cap, h1, h2, h3, h4⟩
          · exact .inl ⟨h1, h2, by rw [h3]; rfl⟩
          · exact .inr ⟨b, cap, h1, h2, h3, h4⟩)
        refine (hC w _ _ _ _ (by simp; omega) hinit).mono ?_
        rintro e w' ⟨v', β', rfl, hS, _⟩
        cases r with
        | c r =>
          obtain ⟨hS', hVr⟩ := back_ownC h hb hS
          exact hnext _ _ v' _ (hS'.putO o.dst hd (.c r) v' hVr) (by rw [hdst]; exact hK)
        | own sz' zs =>
          cases hpd : pd with
          | none =>
            rw [hpd] at hrd
            have := hrd _ _ rfl
            cases this
          | some e =>
            rw [hpd] at hdst hK
            obtain ⟨β2, hS'⟩ := back_ownO h hb hS (hd e hdst)
            exact hnext β2 _ v' _ (by rw [hdst]; exact hS') hK
      · rename_i d ver off cs hx hcs
        rw [hx] at hR
        obtain ⟨hl, hV⟩ := evcs_V h hargs.2 hcs
        split at hw <;> (try (exact hw.elim))
        rename_i v c0 hb
        obtain ⟨⟨rfl, rfl⟩, r, c1, hC, hK⟩ := hw
        have hown : (s.bx d).st.owned = true := by rw [hb]; rfl
        obtain ⟨b, base, hβ, he⟩ := hR.2 (by rw [hb]) c0 (.inl (by rw [hb]))
        have hinit := sim_init1 h (d0 := d) (av := .io c0) (by rw [hb]; rfl) hown (v0 := a.eval cx) (vs := cl.map a.eval) (by simpa using hl) (fun i h1 h2 => by have := hV i (by simpa using h1) h2; simpa using this)
          ⟨Nat.le_refl _, fun _ cs2 hs2 => ⟨b, base, by simpa using hβ, by simpa using he⟩⟩
        refine (hC w _ _ _ _ (by simp; omega) hinit).mono ?_
        rintro e w' ⟨v', β', rfl, hS, hβ'⟩
        have hβ0 : β' 0 = β d := by have := hβ' 0 c0 rfl; simpa using this
        obtain ⟨hS', hVr⟩ := back_io h hb hS hβ0
        exact hnext _ _ v' _ (hS'.putO o.dst hd (.c r) v' hVr) (by rw [hdst]; exact hK)
    · exact hw.elim
  all_goals (simp only [wpK] at hw; exact plain _ hc hw)
end
end Go.Pl

/-
  EACH OPERATION, GOES ON: slices of slices, literals of structs, arrays, slices. My own work.
-/
import Derived.Test.YtcmejdkjfekoeaaPlOps4
namespace Go.Pl
open Go
set_option linter.unusedVariables false
section
variable {O A0 : Nat → Prop} {w0 w : World} {β : Bt} {s : PS} {a : Act} {P : Program}

def chkOO : Option Operand → Option PO → Bool
  | none, none => true
  | some x, some y => chkPO x y
  | _, _ => false

/-- a bound of a slice expression -/
theorem bound_run (h : Sim O w0 A0 β s (tmf a) w) {x : Option Operand} {y : Option PO} (hc : chkOO x y = true) {dflt n top : Nat} (hb : bound s dflt y = some n) (hn : n ≤ top) (code : BoundsCode) :
    (x = none ∧ n = dflt) ∨ ∃ z, x = some z ∧ (Instr.sliceBound (a.eval z) top code).run P w = .ok n w := by
  cases y with
  | none =>
    cases x with
    | none => exact .inl ⟨rfl, (Option.some.inj hb).symm⟩
    | some z => cases hc
  | some y =>
    cases x with
    | none => cases hc
    | some z =>
      simp only [bound] at hb
      split at hb
      · rename_i k m hm
        split at hb
        · rename_i h0
          obtain rfl := Option.some.inj hb
          have hV := V.int_inv (evc_V h hc hm)
          refine .inr ⟨z, rfl, ?_⟩
          simp only [Instr.sliceBound, hV, asIntOf, Sem.run_bind, Sem.run_pure, Result.andThen_ok, Sem.run_ite]
          rw [if_pos ⟨h0, by omega⟩]
        · cases hb
      · cases hb

theorem ok_slc {o : Oper} {t e : TypeId} {sz0 : Nat} {x : Operand} {y : PO} {lo hi : Option Operand} {lo' hi' : Option PO} {i : TypeInfo} (ho : o.op = .slice t x lo hi none) (h : Sim O w0 A0 β s (tmf a) w) (hd : dstOk o.dst a.tmps.size) (hc : chkPO x y = true)
    (hlo : chkOO lo lo' = true) (hhi : chkOO hi hi' = true) (hu : P.underlying t = some (.slice e)) (hi0 : P.info? e = some i) {s' : PS} (hisz : i.size = sz0) (hs : pstep o.dst s (.slc sz0 y lo' hi') = some s') : Does P o O A0 w0 a w s' := by
  have hR := ev_R h hc
  simp only [pstep] at hs
  split at hs
  · rename_i es hy
    rw [hy] at hR
    split at hs
    · rename_i l k hl hk
      split at hs
      · rename_i hlk
        obtain rfl := Option.some.inj hs
        have run : ∀ (b : Option Addr) (cap : Nat), a.eval x = .slice b es.length cap → es.length ≤ cap →
            (execOp a.eval o).run P w = .ok (.value (.slice (if cap = l then b else b.map (·.add (l * i.size))) (k - l) (cap - l))) w := by
          intro b cap he hcap
          have hb1 := bound_run (P := P) h hhi hk (top := cap) (by omega) .sliceAcap
          have hb2 := bound_run (P := P) h hlo hl (top := k) (by omega) .sliceB
          have hbs : (Instr.sliceBounds true es.length cap (lo.map a.eval) (hi.map a.eval) none).run P w = .ok (l, k, cap) w := by
            unfold Instr.sliceBounds
            rcases hb1 with ⟨rfl, rfl⟩ | ⟨z1, rfl, hz1⟩ <;> rcases hb2 with ⟨rfl, rfl⟩ | ⟨z2, rfl, hz2⟩ <;> simp [Sem.run_bind, *]
          unfold execOp
          simp only [ho, he, Instr.sliceAt, Instr.slice, Option.map_none, Sem.run_bind, run_underlying hu, Result.andThen_ok, hbs, sizeOf, typeInfo, program, Sem.run, hi0, Sem.run_pure]
        generalize hvx : a.eval x = vx at hR
        cases hR with
        | nil =>
          have hl0 : l = 0 := by simp at hlk; omega
          have hk0 : k = 0 := by simp at hlk; omega
          subst hl0; subst hk0
          have := run none 0 (by simpa using hvx) (by simp)
          simp at this
          refine Does.val h hd this ?_
          simp only [List.take_nil, List.drop_nil]
          exact V.nil
        | emp b cap =>
          have hl0 : l = 0 := by simp at hlk; omega
          have hk0 : k = 0 := by simp at hlk; omega
          subst hl0; subst hk0
          have := run (some b) cap (by simpa using hvx) (by simp)
          have e0 : (if cap = 0 then some b else (some b).map (·.add (0 * i.size))) = some b := by
            split
            · rfl
            · simp [Addr.add]
          rw [e0] at this
          refine Does.val h hd this ?_
          simp only [List.take_nil, List.drop_nil, Nat.sub_zero]
          exact V.emp _ _
        | sl b off cap sz _ c hb hN hz hcap h1 hread hVV =>
          have hrun := run _ cap hvx hcap
          have hlen : ((es.take k).drop l).length = k - l := by simp; omega
          by_cases hcl : cap = l
          · have : k = l := by omega
            subst this
            rw [if_pos hcl] at hrun
            refine Does.val h hd hrun ?_
            have he : (es.take k).drop k = [] := by simp
            rw [he, Nat.sub_self]
            exact V.sl b off (cap - k) sz [] c hb hN (by simp) (by simp) (by simp) (fun i j hi => by simp at hi) (fun i j hi => by simp at hi)
          · rw [if_neg hcl] at hrun
            refine Does.val h hd hrun ?_
            simp only [Option.map_some, Addr.add_mid]
            by_cases hes : es = []
            · subst hes
              simp only [List.length_nil] at hlk
              have hl0 : l = 0 := by omega
              have hk0 : k = 0 := by omega
              subst hl0; subst hk0
              simp only [List.take_nil, List.drop_nil, Nat.sub_self]
              exact V.sl b _ (cap - 0) sz [] c hb hN (by simp) (by simp) (by simp) (fun i j hi => by simp at hi) (fun i j hi => by simp at hi)
            · have hsz : i.size = sz := by
                rw [hisz, ← hlk.2.2 _ (List.head_mem hes), hz _ (List.head_mem hes)]
              rw [hsz, ← hlen]
              refine V.sl b (off + l * sz) (cap - l) sz _ (fun p q => c (p + l) q) hb hN (fun e he => hz e (List.mem_of_mem_take (List.mem_of_mem_drop he))) (by omega) (fun e he => h1 e (List.mem_of_mem_take (List.mem_of_mem_drop he))) ?_ ?_
              · intro p q hp hq
                have hp' : p + l < es.length := by simp at hp; omega
                have hg : ((es.take k).drop l)[p] = es[l + p]'(by omega) := by simp
                have := hread (p + l) q hp' (by rw [hg] at hq; simpa [Nat.add_comm] using hq)
                rw [← this]
                congr 1
                rw [Nat.add_mul]
                congr 1
                omega
              · intro p q hp hq
                have hp' : p + l < es.length := by simp at hp; omega
                have hg : ((es.take k).drop l)[p] = es[l + p]'(by omega) := by simp
                have hq' : q < es[p + l].length := by rw [hg] at hq; simpa [Nat.add_comm] using hq
                have := hVV (p + l) q hp' hq'
                simp only [hg]
                simpa [Nat.add_comm] using this
      · cases hs
    · cases hs
  · cases hs
end
end Go.Pl

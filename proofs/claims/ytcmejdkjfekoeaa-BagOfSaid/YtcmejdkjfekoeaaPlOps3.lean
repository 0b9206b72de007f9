/-
  EACH OPERATION, GOES ON: numbers, parts, addresses, literals. My own work.
-/
import Derived.Test.YtcmejdkjfekoeaaPlEq
namespace Go.Pl
open Go
set_option linter.unusedVariables false
section
variable {O A0 : Nat → Prop} {w0 w : World} {β : Bt} {s : PS} {a : Act} {P : Program}

theorem ok_un {o : Oper} {op : UnOp} {t : TypeId} {x : Operand} {y : PO} (ho : o.op = .unOp op t x) (h : Sim O w0 A0 β s (tmf a) w) (hd : dstOk o.dst a.tmps.size) (hc : chkPO x y = true) {s' : PS}
    (hs : pstep o.dst s (.un op y) = some s') : Does P o O A0 w0 a w s' := by
  simp only [pstep] at hs
  split at hs
  · rename_i c hy
    have hV := evc_V h hc hy
    cases hu : unC op c with
    | none => rw [hu] at hs; cases hs
    | some r =>
      rw [hu] at hs
      obtain rfl := Option.some.inj hs
      unfold unC at hu
      split at hu
      · obtain rfl := Option.some.inj hu
        refine Does.val h hd (v := .bool _) ?_ (V.bool _)
        unfold execOp
        simp only [ho, V.bool_inv hV, Op.unary, Sem.run_bind, Sem.run_pure, Result.andThen_ok]
      · obtain rfl := Option.some.inj hu
        refine Does.val h hd (v := .int _ _) ?_ (V.int _ _)
        unfold execOp
        simp only [ho, V.int_inv hV, Op.unary, Op.intArith, Sem.run_bind, Sem.run_pure, Result.andThen_ok]
      · cases hu
  · cases hs

theorem run_binOp {op : BinOp} {t : TypeId} {u v : Value} {x y z : CV} {N : Nat → Prop} (hx : V w N u x) (hy : V w N v y) (hb : binC op x y = some z)
    (px py : Operand) : ∃ r, (do eqGuard op t px py u v; binOp op t u v : Sem Value).run P w = .ok r w ∧ V w N r z := by
  unfold binC at hb
  split at hb
  · rename_i k a k' b
    unfold shl at hb
    split at hb
    · rename_i hc
      obtain rfl := Option.some.inj hb
      refine ⟨_, ?_, V.int _ _⟩
      simp only [V.int_inv hx, V.int_inv hy, eqGuard, binOp, Op.shift, Sem.run_bind]
      simp [show ¬ b < 0 by omega, Nat.min_eq_left hc.2]
    · cases hb
  · rename_i k a k' b
    unfold shr at hb
    split at hb
    · rename_i hc
      obtain rfl := Option.some.inj hb
      refine ⟨_, ?_, V.int _ _⟩
      simp only [V.int_inv hx, V.int_inv hy, eqGuard, binOp, Op.shift, Sem.run_bind]
      simp [show ¬ b < 0 by omega, Nat.min_eq_left hc.2]
    · cases hb
  all_goals first
    | (rename_i k a k' b
       split at hb
       · rename_i hc
         obtain rfl := Option.some.inj hb
         first
           | (obtain rfl := hc
              refine ⟨_, ?_, V.int _ _⟩
              simp only [V.int_inv hx, V.int_inv hy, eqGuard, binOp, Op.intArith, Op.intBits, Sem.run_bind]
              simp
              done)
           | (obtain rfl := hc
              refine ⟨_, ?_, V.bool _⟩
              simp only [V.int_inv hx, V.int_inv hy, eqGuard, binOp, Op.intCmp, Sem.run_bind]
              simp [bne]
              done)
           | (obtain ⟨rfl, hc⟩ := hc
              refine ⟨_, ?_, V.int _ _⟩
              simp only [V.int_inv hx, V.int_inv hy, eqGuard, binOp, Op.intDiv, Sem.run_bind]
              simp [hc]
              done)
       · cases hb)
    | (obtain rfl := Option.some.inj hb
       refine ⟨_, ?_, V.bool _⟩
       simp only [V.str_inv hx, V.str_inv hy, eqGuard, binOp, Op.stringOp, Sem.run_bind]
       simp
       done)
    | (cases hb; done)

theorem ok_bin {o : Oper} {op : BinOp} {t t' : TypeId} {x y : Operand} {x' y' : PO} (ho : o.op = .binOp op t x y t') (h : Sim O w0 A0 β s (tmf a) w) (hd : dstOk o.dst a.tmps.size) (hx : chkPO x x' = true) (hy : chkPO y y' = true)
    {s' : PS} (hs : pstep o.dst s (.bin op x' y') = some s') : Does P o O A0 w0 a w s' := by
  simp only [pstep] at hs
  split at hs
  · rename_i u v hu hv
    cases hb : binC op u v with
    | none => rw [hb] at hs; cases hs
    | some z =>
      rw [hb] at hs
      obtain rfl := Option.some.inj hs
      obtain ⟨r, hr, hV⟩ := run_binOp (P := P) (t := t) (evc_V h hx hu) (evc_V h hy hv) hb x y
      refine Does.val h hd (v := r) ?_ hV
      unfold execOp
      simp only [ho, Sem.run_bind] at hr ⊢
      simp only [hr, Result.andThen_ok, Sem.run_pure]
  · cases hs

theorem shEq_length : ∀ {sh : List LK} {cs ds : List CV} {r : Bool}, shEq sh cs ds = some r → cs.length = sh.length ∧ ds.length = sh.length
  | [], [], [], _, _ => ⟨rfl, rfl⟩
  | [], [], _ :: _, _, h => by simp [shEq] at h
  | [], _ :: _, _, _, h => by simp [shEq] at h
  | _ :: _, [], _, _, h => by simp [shEq] at h
  | _ :: _, _ :: _, [], _, h => by simp [shEq] at h
  | k :: sh, p :: cs, q :: ds, r, h => by
    have step : ∀ {z : Bool}, (shEq sh cs ds).map (z && ·) = some r → (p :: cs).length = (k :: sh).length ∧ (q :: ds).length = (k :: sh).length := by
      intro z h
      cases hs : shEq sh cs ds with
      | none => rw [hs] at h; cases h
      | some u => have := shEq_length hs; simp [this.1, this.2]
    cases k <;> cases p <;> (try (simp [shEq] at h; done)) <;> cases q <;> (try (simp [shEq] at h; done)) <;> simp only [shEq] at h
    · split at h
      · exact step h
      · cases h
    · exact step h
    · exact step h

/-- '==' as the code has it: rows, or bools -/
theorem run_eqs {ag : Bool} {sh : List LK} {t : TypeId} {N : Nat → Prop} {u v : Value} {x y : CV} {r : Bool} (hsh : shapeOf P 50 t = some sh) (hlen : sh.length = P.cellsOf t) (hg : P.eqGuardType P.depth t = false)
    (hag : (match P.underlying t with | some d => d.isRow | none => false) = ag) (hb : ag = false → sh = [.b])
    (hx : V w N u x) (hy : V w N v y) (hr : eqC ag sh x y = some r) (neq : Bool) (px py : Operand) :
    (do eqGuard (if neq then .neq else .eql) t px py u v; binOp (if neq then .neq else .eql) t u v : Sem Value).run P w = .ok (.bool (if neq then !r else r)) w := by
  have hE := eq_part (P := P) (w := w) (N := N) 50 t sh hsh hlen 10000 (by omega)
  cases ag with
  | true =>
    obtain ⟨cs, ds, rfl, rfl, hr⟩ : ∃ cs ds, x = .agg cs ∧ y = .agg ds ∧ shEq sh cs ds = some r := by
      cases x <;> (try (simp [eqC] at hr; done))
      cases y <;> (try (simp [eqC] at hr; done))
      exact ⟨_, _, rfl, rfl, hr⟩
    cases hx with
    | agg xs _ hl1 _ hV1 =>
    cases hy with
    | agg ys _ hl2 _ hV2 =>
    have hl := shEq_length hr
    obtain ⟨u', v', hu, hv, he⟩ := hE xs ys cs ds 0 r ⟨hl1, hV1⟩ ⟨hl2, hV2⟩ (by omega) (by omega) (by
      rw [List.drop_zero, List.drop_zero, List.take_of_length_le (by omega), List.take_of_length_le (by omega)]; exact hr)
    cases hut : P.underlying t with
    | none => rw [hut] at hag; cases hag
    | some dd =>
      rw [hut] at hag
      obtain ⟨i, hi⟩ := info_of_underlying hut
      rw [part_row hut hag hi] at hu hv
      have hcx : xs.extract 0 (0 + P.cellsOf t) = xs := by rw [← hlen]; apply Array.ext <;> simp; omega
      have hcy : ys.extract 0 (0 + P.cellsOf t) = ys := by rw [← hlen]; apply Array.ext <;> simp; omega
      rw [hcx] at hu
      rw [hcy] at hv
      cases hu
      cases hv
      cases neq
      · simp only [Bool.false_eq_true, if_false, Sem.run_bind, run_eqGuard_agg w _ t px py xs ys hg, Result.andThen_ok, run_eql_struct, he]
      · simp only [if_true, Sem.run_bind, run_eqGuard_agg w _ t px py xs ys hg, Result.andThen_ok, run_neq_struct, he]
  | false =>
    obtain rfl := hb rfl
    simp only [eqC] at hr
    cases x <;> (try (simp [shEq] at hr; done))
    cases y <;> (try (simp [shEq] at hr; done))
    rename_i p q
    simp only [shEq, Option.map_some, Bool.and_true] at hr
    obtain rfl := Option.some.inj hr
    obtain rfl := V.bool_inv hx
    obtain rfl := V.bool_inv hy
    have one : ∀ b : Bool, Reads w N #[.bool b] [.bool b] := fun b => by
      refine ⟨rfl, fun i h1 h2 => ?_⟩
      obtain rfl : i = 0 := by simp at h1; omega
      exact V.bool b
    obtain ⟨u', v', hu, hv, he⟩ := hE #[.bool p] #[.bool q] [.bool p] [.bool q] 0 (p == q) (one p) (one q) (by simp) (by simp) (by simp [shEq])
    cases hut : P.underlying t with
    | none => simp [shapeOf, hut] at hsh
    | some dd =>
      rw [hut] at hag
      rw [part_leaf hut hag (by simp)] at hu hv
      cases hu
      cases hv
      cases neq
      · simp only [Bool.false_eq_true, if_false, eqGuard, binOp, Sem.run_bind, Op.equal, Op.maxDepth]
        simp only [List.getElem_toArray, List.getElem_cons_zero] at he
        simp [he]
      · simp only [if_true, eqGuard, binOp, Sem.run_bind, Op.equal, Op.maxDepth]
        simp only [List.getElem_toArray, List.getElem_cons_zero] at he
        simp [he]

theorem ok_eqs {o : Oper} {t t' : TypeId} {x y : Operand} {x' y' : PO} {neq ag : Bool} {sh : List LK} (ho : o.op = .binOp (if neq then .neq else .eql) t x y t') (h : Sim O w0 A0 β s (tmf a) w) (hd : dstOk o.dst a.tmps.size)
    (hx : chkPO x x' = true) (hy : chkPO y y' = true) (hsh : shapeOf P 50 t = some sh) (hlen : sh.length = P.cellsOf t) (hg : P.eqGuardType P.depth t = false)
    (hag : (match P.underlying t with | some d => d.isRow | none => false) = ag) (hb : ag = false → sh = [.b]) {s' : PS} (hs : pstep o.dst s (.eqs neq ag sh x' y') = some s') : Does P o O A0 w0 a w s' := by
  simp only [pstep] at hs
  split at hs
  · rename_i u v hu hv
    cases hq : eqC ag sh u v with
    | none => rw [hq] at hs; cases hs
    | some r =>
      rw [hq] at hs
      obtain rfl := Option.some.inj hs
      have := run_eqs hsh hlen hg hag hb (evc_V h hx hu) (evc_V h hy hv) hq neq x y
      refine Does.val h hd (v := .bool (if neq then !r else r)) ?_ (V.bool _)
      unfold execOp
      simp only [ho, Sem.run_bind] at this ⊢
      simp only [this, Result.andThen_ok, Sem.run_pure]
  · cases hs

theorem ok_conv {o : Oper} {src dst : TypeId} {x : Operand} {y : PO} {k k0 : IntKind} (ho : o.op = .convert src dst x) (h : Sim O w0 A0 β s (tmf a) w) (hd : dstOk o.dst a.tmps.size) (hc : chkPO x y = true)
    (hu0 : P.underlying src = some (.int k0)) (hu : P.underlying dst = some (.int k)) {s' : PS} (hs : pstep o.dst s (.conv k y) = some s') : Does P o O A0 w0 a w s' := by
  simp only [pstep] at hs
  split at hs
  · rename_i k' n hy
    obtain rfl := Option.some.inj hs
    have hV := evc_V h hc hy
    refine Does.val h hd (v := .int k (k.wrap n)) ?_ (V.int _ _)
    unfold execOp
    simp only [ho, V.int_inv hV, convert, Sem.run_bind, run_underlying hu0, run_underlying hu, Result.andThen_ok, Conv.intToInt, Sem.run_pure]
  · cases hs

theorem CellsAt_ptr {N : Nat → Prop} {b off n : Nat} {cs : List CV} (h : CellsAt w N b off cs) (hn : n ≤ cs.length) : CellsAt w N b off (cs.take n) :=
  ⟨fun c hc => h.1 c (List.mem_of_mem_take hc), fun j hj => by
    have hj' : j < cs.length := by simp at hj; omega
    obtain ⟨v, hv, hV⟩ := h.2 j hj'
    exact ⟨v, hv, by simpa using hV⟩⟩

/-- an address that moves on by 'k' cells -/
theorem move_addr (h : Sim O w0 A0 β s (tmf a) w) {v : Value} {pv pv' : PV} {k : Nat} (hR : R w (Nn O β s.bx) β s.bx v pv)
    (hp : (∃ cs, pv = .rp cs ∧ k ≤ cs.length ∧ pv' = .rp (cs.drop k)) ∨ (∃ d e o, pv = .ptr d e o ∧ pv' = .ptr d e (o + k)) ∨ (∃ d e i o, pv = .sp d e i o ∧ pv' = .sp d e i (o + k)))
    (hv : ∀ b off, v = .pointer (some ⟨b, off, none⟩) → True) :
    ∀ v', (∀ b off, v = .pointer (some ⟨b, off, none⟩) → v' = .pointer (some ⟨b, off + k, none⟩)) → R w (Nn O β s.bx) β s.bx v' pv' := by
  intro v' hv'
  rcases hp with ⟨cs, rfl, hk, rfl⟩ | ⟨d, e, o, rfl, rfl⟩ | ⟨d, e, i, o, rfl, rfl⟩
  · obtain ⟨b, off, he, hb, hN, hcs⟩ := hR
    exact ⟨b, off + k, hv' b off he, hb, hN, hcs.drop k⟩
  · refine ⟨hR.1, fun hv cs hs => ?_⟩
    obtain ⟨b, base, hβ, he⟩ := hR.2 hv cs hs
    exact ⟨b, base, hβ, by rw [hv' _ _ he, Nat.add_assoc]⟩
  · refine ⟨hR.1, fun hv sz es hs => ?_⟩
    obtain ⟨b, hβ, he⟩ := hR.2 hv sz es hs
    exact ⟨b, hβ, by rw [hv' _ _ he, Nat.add_assoc]⟩
end
end Go.Pl

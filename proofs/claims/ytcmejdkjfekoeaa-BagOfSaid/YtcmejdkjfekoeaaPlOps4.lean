/-
  EACH OPERATION, GOES ON: addresses, parts, tuples, lengths. My own work.
-/
import Derived.Test.YtcmejdkjfekoeaaPlOps3
namespace Go.Pl
open Go
set_option linter.unusedVariables false
section
variable {O A0 : Nat → Prop} {w0 w : World} {β : Bt} {s : PS} {a : Act} {P : Program}

/-- An address that moves on by 'k' cells: what the plain step asked holds here. -/
theorem moved (h : Sim O w0 A0 β s (tmf a) w) {v : Value} {pv pv' : PV} {k : Nat} (hR : R w (Nn O β s.bx) β s.bx v pv)
    (hp : (∃ cs, pv = .rp cs ∧ k ≤ cs.length ∧ pv' = .rp (cs.drop k)) ∨ (∃ d e o cs, pv = .ptr d e o ∧ s.bx d = ⟨e, .var cs⟩ ∧ pv' = .ptr d e (o + k)) ∨
      (∃ d e i o sz es, pv = .sp d e i o ∧ s.bx d = ⟨e, .sl sz es⟩ ∧ pv' = .sp d e i (o + k))) :
    ∃ b off, v = .pointer (some ⟨b, off, none⟩) ∧ R w (Nn O β s.bx) β s.bx (.pointer (some ⟨b, off + k, none⟩)) pv' := by
  rcases hp with ⟨cs, rfl, hk, rfl⟩ | ⟨d, e, o, cs, rfl, hb, rfl⟩ | ⟨d, e, i, o, sz, es, rfl, hb, rfl⟩
  · obtain ⟨b, off, he, hb, hN, hcs⟩ := hR
    exact ⟨b, off, he, b, off + k, rfl, hb, hN, hcs.drop k⟩
  · obtain ⟨b, base, hβ, he⟩ := hR.2 (by rw [hb]) cs (.inl (by rw [hb]))
    refine ⟨b, _, he, hR.1, fun hv cs' hs => ⟨b, base, hβ, by rw [Nat.add_assoc]⟩⟩
  · obtain ⟨b, hβ, he⟩ := hR.2 (by rw [hb]) sz es (by rw [hb])
    refine ⟨b, _, he, hR.1, fun hv sz' es' hs => ?_⟩
    rw [hb] at hs
    cases hs
    exact ⟨b, hβ, by rw [Nat.add_assoc]⟩

theorem ok_fad {o : Oper} {t : TypeId} {x : Operand} {y : PO} {f k : Nat} {fs : Array Field} {fd : Field} {i : TypeInfo} (ho : o.op = .fieldAddr t x f) (h : Sim O w0 A0 β s (tmf a) w) (hd : dstOk o.dst a.tmps.size) (hc : chkPO x y = true)
    (hu : P.underlying t = some (.struct fs)) (hf : fs[f]? = some fd) (hk : fd.offset = k) (hi : P.info? fd.type = some i) (hi0 : i.size ≠ 0) {s' : PS} (hs : pstep o.dst s (.fad k y) = some s') : Does P o O A0 w0 a w s' := by
  have hR := ev_R h hc
  have key : ∀ pv', ((∃ cs, s.ev y = .rp cs ∧ k ≤ cs.length ∧ pv' = .rp (cs.drop k)) ∨ (∃ d e o cs, s.ev y = .ptr d e o ∧ s.bx d = ⟨e, .var cs⟩ ∧ pv' = .ptr d e (o + k)) ∨
      (∃ d e i o sz es, s.ev y = .sp d e i o ∧ s.bx d = ⟨e, .sl sz es⟩ ∧ pv' = .sp d e i (o + k))) → s' = s.putO o.dst pv' → Does P o O A0 w0 a w s' := by
    rintro pv' hp rfl
    obtain ⟨b, off, he, hR'⟩ := moved h hR hp
    refine Does.val h hd (v := .pointer (some ⟨b, off + k, none⟩)) ?_ hR'
    unfold execOp
    simp only [ho, he, Instr.fieldAt, Instr.sureAddr, fieldPlace, sizeOf, typeInfo, program, Sem.run_bind, Sem.run, run_underlying hu, hf, hi, hi0, if_false, Result.andThen_ok, Sem.run_pure, hk, Addr.add_mid]
  simp only [pstep] at hs
  split at hs
  · rename_i cs hy
    split at hs
    · exact key _ (.inl ⟨cs, hy, ‹_›, rfl⟩) (Option.some.inj hs).symm
    · cases hs
  · rename_i d v o' hy
    split at hs
    · rename_i u cs hb
      split at hs
      · rename_i hv
        subst hv
        exact key _ (.inr (.inl ⟨d, u, o', cs, hy, hb, rfl⟩)) (Option.some.inj hs).symm
      · cases hs
    · cases hs
  · rename_i d v j o' hy
    split at hs
    · rename_i u sz es hb
      split at hs
      · rename_i hv
        subst hv
        exact key _ (.inr (.inr ⟨d, u, j, o', sz, es, hy, hb, rfl⟩)) (Option.some.inj hs).symm
      · cases hs
    · cases hs
  · cases hs

theorem ok_iaA {o : Oper} {t e : TypeId} {x ix : Operand} {y iy : PO} {len sz : Nat} {i : TypeInfo} (ho : o.op = .indexAddr t x ix) (h : Sim O w0 A0 β s (tmf a) w) (hd : dstOk o.dst a.tmps.size) (hc : chkPO x y = true) (hci : chkPO ix iy = true)
    (hu : P.underlying t = some (.array len e)) (hi : P.info? e = some i) (hsz : i.size = sz) {s' : PS} (hs : pstep o.dst s (.iaA len sz y iy) = some s') : Does P o O A0 w0 a w s' := by
  have hR := ev_R h hc
  simp only [pstep] at hs
  split at hs
  · rename_i k n hn
    have hV := V.int_inv (evc_V h hci hn)
    split at hs
    · rename_i hr
      have key : ∀ pv', ((∃ cs, s.ev y = .rp cs ∧ n.toNat * sz ≤ cs.length ∧ pv' = .rp (cs.drop (n.toNat * sz))) ∨ (∃ d e o cs, s.ev y = .ptr d e o ∧ s.bx d = ⟨e, .var cs⟩ ∧ pv' = .ptr d e (o + n.toNat * sz)) ∨
          (∃ d e i o sz' es, s.ev y = .sp d e i o ∧ s.bx d = ⟨e, .sl sz' es⟩ ∧ pv' = .sp d e i (o + n.toNat * sz))) → s' = s.putO o.dst pv' → Does P o O A0 w0 a w s' := by
        rintro pv' hp rfl
        obtain ⟨b, off, he, hR'⟩ := moved h hR hp
        refine Does.val h hd (v := .pointer (some ⟨b, off + n.toNat * sz, none⟩)) ?_ hR'
        unfold execOp
        simp only [ho, he, hV, Instr.indexAt, Instr.sureAddr, asIntOf, sizeOf, typeInfo, program, Sem.run_bind, Sem.run, run_underlying hu, hi, hsz, Result.andThen_ok, Sem.run_pure, Sem.run_ite, if_pos hr, Addr.add_mid]
      split at hs
      · rename_i cs hy
        split at hs
        · exact key _ (.inl ⟨cs, hy, ‹_›, rfl⟩) (Option.some.inj hs).symm
        · cases hs
      · rename_i d v o' hy
        split at hs
        · rename_i u cs hb
          split at hs
          · rename_i hv
            subst hv
            exact key _ (.inr (.inl ⟨d, u, o', cs, hy, hb, rfl⟩)) (Option.some.inj hs).symm
          · cases hs
        · cases hs
      · rename_i d v j o' hy
        split at hs
        · rename_i u sz' es hb
          split at hs
          · rename_i hv
            subst hv
            exact key _ (.inr (.inr ⟨d, u, j, o', sz', es, hy, hb, rfl⟩)) (Option.some.inj hs).symm
          · cases hs
        · cases hs
      · cases hs
    · cases hs
  · cases hs

theorem ok_iaS {o : Oper} {t e : TypeId} {x ix : Operand} {y iy : PO} {sz : Nat} {i : TypeInfo} (ho : o.op = .indexAddr t x ix) (h : Sim O w0 A0 β s (tmf a) w) (hd : dstOk o.dst a.tmps.size) (hc : chkPO x y = true) (hci : chkPO ix iy = true)
    (hu : P.underlying t = some (.slice e)) (hi : P.info? e = some i) (hsz : i.size = sz) {s' : PS} (hs : pstep o.dst s (.iaS sz y iy) = some s') : Does P o O A0 w0 a w s' := by
  have hR := ev_R h hc
  simp only [pstep] at hs
  split at hs
  · rename_i k n hn
    have hV := V.int_inv (evc_V h hci hn)
    have run : ∀ b off len cap, a.eval x = .slice (some ⟨b, off, none⟩) len cap → 0 ≤ n ∧ n < (len : Int) → (execOp a.eval o).run P w = .ok (.value (.pointer (some ⟨b, off + n.toNat * sz, none⟩))) w := by
      intro b off len cap he hr
      unfold execOp
      simp only [ho, he, hV, Instr.indexAt, asIntOf, sizeOf, typeInfo, program, Sem.run_bind, Sem.run, run_underlying hu, hi, hsz, Result.andThen_ok, Sem.run_pure, Sem.run_ite, if_pos hr, Addr.add_mid]
    split at hs
    · rename_i es hy
      rw [hy] at hR
      split at hs
      · rename_i hr
        split at hs
        · rename_i hlen
          obtain rfl := Option.some.inj hs
          have hlt : n.toNat < es.length := by omega
          have hget : es.getD n.toNat [] = es[n.toNat] := by simp [List.getD, hlt]
          rw [hget] at hlen ⊢
          generalize hvx : a.eval x = vx at hR
          cases hR with
          | nil => simp at hlt
          | emp _ _ => simp at hlt
          | sl b off cap sz' _ c hb hN hz hcap h1 hread hVV =>
            have : sz' = sz := by rw [← hz _ (List.getElem_mem hlt)]; exact hlen
            subst this
            refine Does.val h hd (run b off es.length cap hvx hr) ⟨b, off + n.toNat * sz', rfl, hb, hN, h1 _ (List.getElem_mem hlt), fun j hj => ?_⟩
            exact ⟨c n.toNat j, by rw [Nat.add_assoc]; exact hread _ _ hlt hj, hVV _ _ hlt hj⟩
        · cases hs
      · cases hs
    · rename_i d v off len hy
      rw [hy] at hR
      split at hs
      · rename_i u sz' es hb
        split at hs
        · rename_i hcond
          obtain ⟨rfl, rfl, hr⟩ := hcond
          obtain rfl := Option.some.inj hs
          obtain ⟨rfl, hor⟩ := hR.2 (by rw [hb]) sz' es (by rw [hb])
          rcases hor with ⟨_, _, rfl⟩ | ⟨b, cap, hβ, he, _, _⟩
          · exact absurd hr.2 (by omega)
          · refine Does.val h hd (run b 0 len cap he hr) ⟨by rw [hb]; exact Nat.le_refl _, fun _ sz2 es2 hs2 => ⟨b, hβ, ?_⟩⟩
            rw [hb] at hs2
            cases hs2
            simp
        · cases hs
      · cases hs
    · cases hs
  · cases hs

theorem part_V {t : TypeId} {d : TypeDesc} {i : TypeInfo} {N : Nat → Prop} {vs : Array Value} {cs : List CV} {off n : Nat} {f : Bool} (hu : P.underlying t = some d) (hi : P.info? t = some i) (hn : i.size = n) (hf : d.isRow = f) (h1 : f = false → n = 1)
    (hV : V w N (.agg vs) (.agg cs)) (hl : off + n ≤ cs.length) : ∃ v, (part t vs off).run P w = .ok v w ∧ V w N v (rdc f n (cs.drop off)) := by
  cases hV with
  | agg _ _ hlen ho hV =>
  have hct : P.cellsOf t = n := by simp [Program.cellsOf, hi, hn]
  cases f with
  | true =>
    refine ⟨_, part_row hu hf hi, ?_⟩
    rw [hct]
    simp only [rdc, if_true]
    refine .agg _ _ (by simp; omega) (fun c hc => ho c (List.mem_of_mem_drop (List.mem_of_mem_take hc))) fun j h1 h2 => ?_
    have := hV (off + j) (by simp at h1 h2; omega) (by simp at h2; omega)
    simpa using this
  | false =>
    have hn1 := h1 rfl
    have hlt : off < vs.size := by omega
    refine ⟨_, part_leaf hu hf hlt, ?_⟩
    have : rdc false n (cs.drop off) = cs[off]'(by omega) := by
      simp only [rdc, Bool.false_eq_true, if_false]
      rw [List.drop_eq_getElem_cons (by omega)]
      rfl
    rw [this]
    exact hV off hlt (by omega)

theorem V.agg_inv {N : Nat → Prop} {v : Value} {cs : List CV} (h : V w N v (.agg cs)) : ∃ vs, v = .agg vs := by cases h; exact ⟨_, rfl⟩

theorem ok_fld {o : Oper} {t : TypeId} {x : Operand} {y : PO} {f k n : Nat} {ag : Bool} {fs : Array Field} {fd : Field} {i : TypeInfo} {d : TypeDesc} (ho : o.op = .field t x f) (h : Sim O w0 A0 β s (tmf a) w) (hd : dstOk o.dst a.tmps.size) (hc : chkPO x y = true)
    (hu : P.underlying t = some (.struct fs)) (hf : fs[f]? = some fd) (hk : fd.offset = k) (hi : P.info? fd.type = some i) (hn : i.size = n) (hud : P.underlying fd.type = some d) (hag : d.isRow = ag) (h1 : ag = false → n = 1)
    {s' : PS} (hs : pstep o.dst s (.fld ag k n y) = some s') : Does P o O A0 w0 a w s' := by
  simp only [pstep] at hs
  split at hs
  · rename_i cs hy
    split at hs
    · rename_i hl
      obtain rfl := Option.some.inj hs
      have hV := evc_V h hc hy
      obtain ⟨vs, hvs⟩ := V.agg_inv hV
      rw [hvs] at hV
      obtain ⟨v, hr, hVr⟩ := part_V (P := P) hud hi hn hag h1 hV hl
      refine Does.val h hd (v := v) ?_ hVr
      unfold execOp
      simp only [ho, hvs, Instr.field, asAgg, Sem.run_bind, run_underlying hu, hf, hk, Result.andThen_ok, Sem.run_pure, hr]
    · cases hs
  · cases hs

theorem ok_idA {o : Oper} {t e : TypeId} {x ix : Operand} {y iy : PO} {len sz : Nat} {ag : Bool} {i : TypeInfo} {d : TypeDesc} (ho : o.op = .index t x ix) (h : Sim O w0 A0 β s (tmf a) w) (hd : dstOk o.dst a.tmps.size) (hc : chkPO x y = true) (hci : chkPO ix iy = true)
    (hu : P.underlying t = some (.array len e)) (hi : P.info? e = some i) (hsz : i.size = sz) (hud : P.underlying e = some d) (hag : d.isRow = ag) (h1 : ag = false → sz = 1)
    {s' : PS} (hs : pstep o.dst s (.idA ag len sz y iy) = some s') : Does P o O A0 w0 a w s' := by
  simp only [pstep] at hs
  split at hs
  · rename_i k n cs hn hy
    split at hs
    · rename_i hr
      obtain rfl := Option.some.inj hs
      have hV := evc_V h hc hy
      have hVi := V.int_inv (evc_V h hci hn)
      obtain ⟨vs, hvs⟩ := V.agg_inv hV
      rw [hvs] at hV
      have hl : n.toNat * sz + sz ≤ cs.length := by
        have : (n.toNat + 1) * sz ≤ len * sz := Nat.mul_le_mul_right _ (by omega)
        rw [Nat.add_mul, Nat.one_mul] at this
        omega
      obtain ⟨v, hr', hVr⟩ := part_V (P := P) hud hi hsz hag h1 hV hl
      refine Does.val h hd (v := v) ?_ hVr
      unfold execOp
      simp only [ho, hvs, hVi, Instr.index, asIntOf, sizeOf, typeInfo, program, Sem.run_bind, Sem.run, run_underlying hu, hi, hsz, Result.andThen_ok, Sem.run_pure, Sem.run_ite, if_pos (show 0 ≤ n ∧ n < (len : Int) from ⟨hr.1, hr.2.1⟩), hr']
    · cases hs
  · cases hs

theorem ok_idS {o : Oper} {t : TypeId} {x ix : Operand} {y iy : PO} (ho : o.op = .index t x ix) (h : Sim O w0 A0 β s (tmf a) w) (hd : dstOk o.dst a.tmps.size) (hc : chkPO x y = true) (hci : chkPO ix iy = true)
    (hu : P.underlying t = some .string) {s' : PS} (hs : pstep o.dst s (.idS y iy) = some s') : Does P o O A0 w0 a w s' := by
  simp only [pstep] at hs
  split at hs
  · rename_i k n b hn hy
    have hV := V.str_inv (evc_V h hc hy)
    have hVi := V.int_inv (evc_V h hci hn)
    split at hs
    · rename_i h0
      split at hs
      · rename_i c hcc
        obtain rfl := Option.some.inj hs
        refine Does.val h hd (v := .int .u8 c.toNat) ?_ (V.int _ _)
        unfold execOp
        simp only [ho, hV, hVi, Instr.index, asIntOf, Sem.run_bind, run_underlying hu, Result.andThen_ok, Sem.run_pure, if_pos h0, hcc]
      · cases hs
    · cases hs
  · cases hs

theorem ok_ext {o : Oper} {x : Operand} {y : PO} {j : Nat} (ho : o.op = .extract x j) (h : Sim O w0 A0 β s (tmf a) w) (hd : dstOk o.dst a.tmps.size) (hc : chkPO x y = true)
    {s' : PS} (hs : pstep o.dst s (.ext y j) = some s') : Does P o O A0 w0 a w s' := by
  simp only [pstep] at hs
  split at hs
  · rename_i vs hy
    split at hs
    · rename_i c hj
      obtain rfl := Option.some.inj hs
      have hV := evc_V h hc hy
      generalize hvx : a.eval x = vx at hV
      cases hV with
      | tup us _ hl hV =>
      obtain ⟨hj', rfl⟩ := List.getElem?_eq_some_iff.1 hj
      refine Does.val h hd (v := us[j]'(by omega)) ?_ (hV j (by omega) hj')
      unfold execOp
      simp only [ho, hvx, Instr.extract, Sem.run_bind]
      simp [show j < us.size by omega]
    · cases hs
  · cases hs

theorem ok_len {o : Oper} {c : Call} {t e : TypeId} {x : Operand} {y : PO} (ho : o.op = .call c) (hcal : c.callee = .builtin .len) (hargs : c.args = #[x]) (hty : c.argTypes[0]? = some t) (h : Sim O w0 A0 β s (tmf a) w) (hd : dstOk o.dst a.tmps.size) (hc : chkPO x y = true)
    (hu : P.underlying t = some (.slice e)) {s' : PS} (hs : pstep o.dst s (.len y) = some s') : Does P o O A0 w0 a w s' := by
  have hR := ev_R h hc
  have runS : ∀ b len cap, a.eval x = .slice b len cap → (execOp a.eval o).run P w = .ok (.value (goInt len)) w := by
    intro b len cap he
    unfold execOp
    simp [ho, hcal, hargs, he, resolve, invoke, builtin, Builtin.len_, hty, Sem.run_bind, run_underlying hu]
  simp only [pstep] at hs
  split at hs
  · rename_i es hy
    obtain rfl := Option.some.inj hs
    rw [hy] at hR
    generalize hvx : a.eval x = vx at hR
    cases hR with
    | nil => exact Does.val h hd (runS none 0 0 hvx) (V.int _ _)
    | emp b cap => exact Does.val h hd (runS (some b) 0 cap hvx) (V.int _ _)
    | sl b off cap sz' _ c hb hN hz hcap h1 hread hVV => exact Does.val h hd (runS _ es.length cap hvx) (V.int _ _)
  · rename_i d v off len hy
    rw [hy] at hR
    split at hs
    · rename_i u sz es hb
      split at hs
      · rename_i hv
        subst hv
        obtain rfl := Option.some.inj hs
        obtain ⟨_, hor⟩ := hR.2 (by rw [hb]) sz es (by rw [hb])
        rcases hor with ⟨_, he, rfl⟩ | ⟨b, cap, _, he, _, _⟩
        · exact Does.val h hd (runS none 0 0 he) (V.int _ _)
        · exact Does.val h hd (runS _ len cap he) (V.int _ _)
      · cases hs
    · cases hs
  · cases hs

theorem ok_lenS {o : Oper} {c : Call} {t : TypeId} {x : Operand} {y : PO} (ho : o.op = .call c) (hcal : c.callee = .builtin .len) (hargs : c.args = #[x]) (hty : c.argTypes[0]? = some t) (h : Sim O w0 A0 β s (tmf a) w) (hd : dstOk o.dst a.tmps.size) (hc : chkPO x y = true)
    (hu : P.underlying t = some .string) {s' : PS} (hs : pstep o.dst s (.lenS y) = some s') : Does P o O A0 w0 a w s' := by
  simp only [pstep] at hs
  split at hs
  · rename_i b hy
    obtain rfl := Option.some.inj hs
    have hV := V.str_inv (evc_V h hc hy)
    refine Does.val h hd (v := goInt b.size) ?_ (V.int _ _)
    unfold execOp
    simp [ho, hcal, hargs, hV, resolve, invoke, builtin, Builtin.len_, hty, Sem.run_bind, run_underlying hu]
  · cases hs
end
end Go.Pl

/-
  FUNCTIONS FOR WHICH THE MODEL ITSELF STANDS IN, of plain arguments. My own work.
-/
import Derived.Test.YtcmejdkjfekoeaaPlOps9
import Derived.Laws.Externs
import Derived.KernelRfl
namespace Go.Pl
open Go
set_option linter.unusedVariables false
set_option linter.unusedSimpArgs false

def XF.name : XF → String
  | .adc => "math/bits.Add64"
  | .sbc => "math/bits.Sub64"

def sbcEntry : Array Value → Sem Value := fun args => do
  let (x, y, b) ← Extern.MathBitsCarry.three "Sub64" args
  pure (Extern.MathBitsCarry.pair ((x + Extern.MathBitsCarry.m64 - y - b) % Extern.MathBitsCarry.m64) (if x < y + b then 1 else 0))

theorem find_of {fn : Func} {n : String} {e : Array Value → Sem Value} (hn : fn.name = n) (h1 : Extern.allGenericRows.lookup n = none) (h2 : Extern.allTypedRows.lookup n = none) (h3 : Extern.allRows.lookup n = some e) :
    Extern.find fn = some e := by
  simp [Extern.find, hn, h1, h2, h3]

theorem findNext_of {fn : Func} {n : String} (hn : fn.name = n) (ho : fn.origin = "") (h1 : Extern.allNextRows.lookup n = none) (h2 : Extern.allNextRows.lookup "" = none) : Extern.findNext fn = none := by
  simp [Extern.findNext, hn, ho, h1, h2]

theorem V_ints {w : World} {N : Nat → Prop} {vs : List Value} {k : IntKind} {x y z : Int} (hl : vs.length = 3)
    (hV : ∀ (i : Nat) (h1 : i < vs.length) (h2 : i < [CV.int k x, .int k y, .int k z].length), V w N vs[i] [CV.int k x, .int k y, .int k z][i]) : vs = [.int k x, .int k y, .int k z] := by
  match vs, hl with
  | [a, b, c], _ =>
    have h0 := V.int_inv (hV 0 (by simp) (by simp))
    have h1 := V.int_inv (hV 1 (by simp) (by simp))
    have h2 := V.int_inv (hV 2 (by simp) (by simp))
    simp only [List.getElem_cons_zero, List.getElem_cons_succ] at h0 h1 h2
    simp [h0, h1, h2]

theorem xfC_adc {cs : List CV} {r : CV} (h : xfC .adc cs = some r) : ∃ x y c : Int, cs = [.int .u64 x, .int .u64 y, .int .u64 c] ∧ (0 ≤ x ∧ 0 ≤ y ∧ 0 ≤ c ∧ c ≤ 1) ∧ r = .tup [.int .u64 ((x + y + c) % m64), .int .u64 ((x + y + c) / m64)] := by
  unfold xfC at h
  split at h
  · split at h
    · exact ⟨_, _, _, rfl, ‹_›, (Option.some.inj h).symm⟩
    · cases h
  · rename_i he; cases he
  · cases h

theorem xfC_sbc {cs : List CV} {r : CV} (h : xfC .sbc cs = some r) : ∃ x y c : Int, cs = [.int .u64 x, .int .u64 y, .int .u64 c] ∧ (0 ≤ x ∧ 0 ≤ y ∧ y < m64 ∧ 0 ≤ c ∧ c ≤ 1) ∧ r = .tup [.int .u64 ((x - y - c) % m64), .int .u64 (if x < y + c then 1 else 0)] := by
  unfold xfC at h
  split at h
  · rename_i he; cases he
  · split at h
    · exact ⟨_, _, _, rfl, ‹_›, (Option.some.inj h).symm⟩
    · cases h
  · cases h

theorem run_sbc {P : Program} {x y c : Int} (hx : 0 ≤ x) (hy : 0 ≤ y) (hy' : y < m64) (hc : 0 ≤ c) (hc' : c ≤ 1) (w : World) :
    (sbcEntry #[.int .u64 x, .int .u64 y, .int .u64 c]).run P w = .ok (.tuple #[.int .u64 ((x - y - c) % m64), .int .u64 (if x < y + c then 1 else 0)]) w := by
  obtain ⟨X, rfl⟩ := Int.eq_ofNat_of_zero_le hx
  obtain ⟨Y, rfl⟩ := Int.eq_ofNat_of_zero_le hy
  obtain ⟨k, rfl⟩ := Int.eq_ofNat_of_zero_le hc
  have hk : k = 0 ∨ k = 1 := by omega
  have run : (sbcEntry #[.int .u64 X, .int .u64 Y, .int .u64 k]).run P w =
      .ok (.tuple #[.int .u64 (((X + 18446744073709551616 - Y - k) % 18446744073709551616 : Nat) : Int), .int .u64 ((if X < Y + k then 1 else 0 : Nat) : Int)]) w := by
    rcases hk with rfl | rfl <;> rfl
  rw [run]
  have e1 : (((X + 18446744073709551616 - Y - k) % 18446744073709551616 : Nat) : Int) = ((X : Int) - Y - k) % m64 := by
    unfold m64 at hy' ⊢
    omega
  have e2 : ((if X < Y + k then 1 else 0 : Nat) : Int) = (if (X : Int) < Y + k then 1 else 0) := by
    split <;> split <;> first | rfl | omega
  rw [e1, e2]

section
variable {O A0 : Nat → Prop} {w0 w : World} {β : Bt} {s : PS} {a : Act} {P : Program}

theorem xf_run {g : XF} {fn : Func} (hn : fn.name = g.name) (ho : fn.origin = "") (hb : fn.body.isNone = true) {f : FuncId} (hf : P.funcs[f]? = some fn) {vs : Array Value} {cs : List CV} {N : Nat → Prop} {r : CV}
    (hl : vs.toList.length = cs.length) (hV : ∀ (i : Nat) (h1 : i < vs.toList.length) (h2 : i < cs.length), V w N vs.toList[i] cs[i]) (hr : xfC g cs = some r) :
    ∃ v, (callFunc f vs).run P w = .ok (.value v) w ∧ V w N v r := by
  have tup2 : ∀ (p q : Int), V w N (.tuple #[.int .u64 p, .int .u64 q]) (.tup [.int .u64 p, .int .u64 q]) := fun p q =>
    V.tup _ _ rfl (fun i h1 h2 => by
      match i with
      | 0 => exact V.int _ _
      | 1 => exact V.int _ _
      | i + 2 => exact absurd h2 (by simp))
  cases g with
  | adc =>
    obtain ⟨x, y, c, rfl, hc, rfl⟩ := xfC_adc hr
    have := V_ints (by simpa using hl) hV
    obtain rfl : vs = #[.int .u64 x, .int .u64 y, .int .u64 c] := by
      apply Array.toList_inj.mp; simpa using this
    obtain ⟨h0, h1, h2, h3⟩ := hc
    rw [run_callFunc_extern hf (by rw [hn]; kernel_rfl) hb (findNext_of hn ho (by kernel_rfl) (by kernel_rfl)) (find_of (e := add64Entry) hn (by kernel_rfl) (by kernel_rfl) (by kernel_rfl)), run_add64 x y c h0 h1 h2 h3]
    exact ⟨_, rfl, tup2 _ _⟩
  | sbc =>
    obtain ⟨x, y, c, rfl, hc, rfl⟩ := xfC_sbc hr
    have := V_ints (by simpa using hl) hV
    obtain rfl : vs = #[.int .u64 x, .int .u64 y, .int .u64 c] := by
      apply Array.toList_inj.mp; simpa using this
    obtain ⟨h0, h1, h1', h2, h3⟩ := hc
    rw [run_callFunc_extern hf (by rw [hn]; kernel_rfl) hb (findNext_of hn ho (by kernel_rfl) (by kernel_rfl)) (find_of (e := sbcEntry) hn (by kernel_rfl) (by kernel_rfl) (by kernel_rfl)), run_sbc h0 h1 h1' h2 h3]
    exact ⟨_, rfl, tup2 _ _⟩
theorem evcs_V (h : Sim O w0 A0 β s (tmf a) w) : ∀ {xs : List Operand} {ys : List PO} {cs : List CV}, chkPOs xs ys = true → evcs s ys = some cs →
    xs.length = cs.length ∧ ∀ (i : Nat) (h1 : i < xs.length) (h2 : i < cs.length), V w (Nn O β s.bx) (a.eval xs[i]) cs[i]
  | [], [], cs, _, he => by obtain rfl := Option.some.inj he; exact ⟨rfl, fun i h => by simp at h⟩
  | [], _ :: _, _, hc, _ => by cases hc
  | _ :: _, [], _, hc, _ => by cases hc
  | x :: xs, y :: ys, cs, hc, he => by
    simp only [chkPOs, Bool.and_eq_true] at hc
    simp only [evcs] at he
    split at he
    · rename_i v vs hv hvs
      obtain rfl := Option.some.inj he
      obtain ⟨hl, hV⟩ := evcs_V h hc.2 hvs
      refine ⟨by simp [hl], fun i h1 h2 => ?_⟩
      cases i with
      | zero => exact evc_V h hc.1 hv
      | succ i => exact hV i (by simpa using h1) (by simpa using h2)
    · cases he


theorem ok_xf {o : Oper} {f : FuncId} {cargs : Array Operand} {tys : Array TypeId} {g : XF} {ys : List PO} {fn : Func} (ho : o.op = .call ⟨.value (.func f), cargs, tys⟩) (hf : P.funcs[f]? = some fn) (hn : fn.name = g.name) (horg : fn.origin = "") (hb : fn.body.isNone = true)
    (h : Sim O w0 A0 β s (tmf a) w) (hd : dstOk o.dst a.tmps.size) (hcs : chkPOs cargs.toList ys = true) {s' : PS} (hs : pstep o.dst s (.xf g ys) = some s') : Does P o O A0 w0 a w s' := by
  simp only [pstep] at hs
  split at hs
  · rename_i cs hev
    cases hr : xfC g cs with
    | none => rw [hr] at hs; cases hs
    | some r =>
      rw [hr] at hs
      obtain rfl := Option.some.inj hs
      obtain ⟨hl, hV⟩ := evcs_V h hcs hev
      obtain ⟨v, hrun, hv⟩ := xf_run (P := P) (w := w) hn horg hb hf (vs := cargs.map a.eval) (cs := cs) (N := Nn O β s.bx) (by simpa using hl) (fun i h1 h2 => by
        have := hV i (by simpa using h1) h2
        simpa using this) hr
      refine Does.val h hd (v := v) ?_ hv
      unfold execOp
      simp only [ho, resolve, Act.eval, Deferred.ofValue, invoke, Sem.run_bind, Sem.run_pure, Result.andThen_ok]
      simpa using hrun
  · cases hs
end
end Go.Pl

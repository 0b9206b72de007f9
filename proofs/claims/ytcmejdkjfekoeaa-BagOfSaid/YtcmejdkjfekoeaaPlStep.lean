/-
  THE WALK OF A PLAIN CODE, step by step: one lemma for each form of an operation; each is a reading of 'wpL' and 'pwp'. My own work.
-/
import Derived.Test.YtcmejdkjfekoeaaPlDef
namespace Go.Pl
set_option linter.unusedSimpArgs false
/-- closed names of the four, for the walk -/
def wL (C : CallP) (l : List POp) (s : PS) (K : PS → Prop) : Prop := wpL C l s K
def wP (C : CallP) (p : PCode) (s : PS) (K : Ex → PS → Prop) : Prop := pwp C p s K
def xT (N : PS → Prop) (K : Ex → PS → Prop) : Ex → PS → Prop := Ex.th N K
def xB (id : Nat) (K : Ex → PS → Prop) : Ex → PS → Prop := Ex.blk id K
section
variable {C : CallP} {l : List POp} {s : PS} {K : PS → Prop} {d : Nat} {x y z : PO} {k : IntKind} {a b n m : Int}

theorem st_nil (h : K s) : wL C [] s K := h

theorem mv_c {v : CV} (hx : s.ev x = .c v) (h : wL C l (s.put d (.c v)) K) : wL C (⟨some d, .mv x, none⟩ :: l) s K := by
  simp only [wL, wpL, wpG, wpK, pstep, PS.putO, hx]; exact h
theorem mv_ptr {e v o : Nat} (hx : s.ev x = .ptr e v o) (h : wL C l (s.put d (.ptr e v o)) K) : wL C (⟨some d, .mv x, none⟩ :: l) s K := by
  simp only [wL, wpL, wpG, wpK, pstep, PS.putO, hx]; exact h
theorem mv_rp {cs : List CV} (hx : s.ev x = .rp cs) (h : wL C l (s.put d (.rp cs)) K) : wL C (⟨some d, .mv x, none⟩ :: l) s K := by
  simp only [wL, wpL, wpG, wpK, pstep, PS.putO, hx]; exact h
theorem mv_osl {e v o n : Nat} (hx : s.ev x = .osl e v o n) (h : wL C l (s.put d (.osl e v o n)) K) : wL C (⟨some d, .mv x, none⟩ :: l) s K := by
  simp only [wL, wpL, wpG, wpK, pstep, PS.putO, hx]; exact h
theorem mv_sp {e v i o : Nat} (hx : s.ev x = .sp e v i o) (h : wL C l (s.put d (.sp e v i o)) K) : wL C (⟨some d, .mv x, none⟩ :: l) s K := by
  simp only [wL, wpL, wpG, wpK, pstep, PS.putO, hx]; exact h
theorem mv_undef (hx : s.ev x = .undef) (h : wL C l (s.put d .undef) K) : wL C (⟨some d, .mv x, none⟩ :: l) s K := by
  simp only [wL, wpL, wpG, wpK, pstep, PS.putO, hx]; exact h

theorem pick_t {v : CV} (hx : s.ev x = .c (.bool true)) (hy : s.ev y = .c v) (h : wL C l (s.put d (.c v)) K) : wL C (⟨some d, .pick x y z, none⟩ :: l) s K := by
  simp only [wL, wpL, wpG, wpK, pstep, PS.putO, hx, hy, if_true]; exact h
theorem pick_f {v : CV} (hx : s.ev x = .c (.bool false)) (hy : s.ev z = .c v) (h : wL C l (s.put d (.c v)) K) : wL C (⟨some d, .pick x y z, none⟩ :: l) s K := by
  simp only [wL, wpL, wpG, wpK, pstep, PS.putO, hx, hy, if_false, Bool.false_eq_true]; exact h

theorem g_yes {g : Nat} {w : Bool} {o : Option Nat} {q : PK} (hg : s.t g = .c (.bool w)) (h : wL C (⟨o, q, none⟩ :: l) s K) : wL C (⟨o, q, some (g, w)⟩ :: l) s K := by
  simp only [wL, wpL, wpG, hg] at *; exact ⟨fun _ => h, fun h => absurd rfl h⟩
theorem g_no {g : Nat} {w : Bool} {q : PK} (hg : s.t g = .c (.bool (!w))) (h : wL C l (s.put d .undef) K) : wL C (⟨some d, q, some (g, w)⟩ :: l) s K := by
  simp only [wL, wpL, wpG, hg, PS.putO] at *; exact ⟨fun h => by cases w <;> simp at h, fun _ => h⟩
theorem g_no' {g : Nat} {w : Bool} {q : PK} (hg : s.t g = .c (.bool (!w))) (h : wL C l s K) : wL C (⟨none, q, some (g, w)⟩ :: l) s K := by
  simp only [wL, wpL, wpG, hg, PS.putO] at *; exact ⟨fun h => by cases w <;> simp at h, fun _ => h⟩
theorem g_un {g : Nat} {w : Bool} {q : PK} (hg : s.t g = .undef) (h : wL C l (s.put d .undef) K) : wL C (⟨some d, q, some (g, w)⟩ :: l) s K := by
  simp only [wL, wpL, wpG, hg, PS.putO] at *; exact h
theorem g_un' {g : Nat} {w : Bool} {q : PK} (hg : s.t g = .undef) (h : wL C l s K) : wL C (⟨none, q, some (g, w)⟩ :: l) s K := by
  simp only [wL, wpL, wpG, hg, PS.putO] at *; exact h
theorem put_same {s : PS} {g : Nat} {v : PV} (h : s.t g = v) : s.put g v = s := by
  cases s; simp only [PS.put, PS.mk.injEq, and_true]; funext i; split
  · rename_i e; subst e; exact h.symm
  · rfl
/-- a test that is not known yet: both ways -/
theorem g_split {g : Nat} {b w : Bool} {o : Option Nat} {q : PK} (hg : s.t g = .c (.bool b))
    (h1 : b = true → wL C (⟨o, q, some (g, w)⟩ :: l) (s.put g (.c (.bool true))) K)
    (h0 : b = false → wL C (⟨o, q, some (g, w)⟩ :: l) (s.put g (.c (.bool false))) K) : wL C (⟨o, q, some (g, w)⟩ :: l) s K := by
  cases b with
  | true => rw [put_same hg] at h1; exact h1 rfl
  | false => rw [put_same hg] at h0; exact h0 rfl

theorem own0_ {sz : Nat} (h : ∀ w, wL C l ((s.box d ⟨w, .sl sz []⟩).put d (.osl d w 0 0)) K) : wL C (⟨some d, .own0 sz, none⟩ :: l) s K := by
  simp only [wL, wpL, wpG, wpK, pstep]; exact h _
theorem alloc_ {cs : List CV} (h : ∀ w, wL C l ((s.box d ⟨w, .var cs⟩).put d (.ptr d w 0)) K) : wL C (⟨some d, .alloc cs, none⟩ :: l) s K := by
  simp only [wL, wpL, wpG, wpK, pstep]; exact h _
theorem box_ {v : CV} {cs : List CV} {n : Nat} (hx : s.ev x = .c v) (hc : v.cells = cs) (hn : cs.length = n)
    (h : ∀ w, wL C l ((s.box d ⟨w, .var cs⟩).put d (.ptr d w 0)) K) : wL C (⟨some d, .box n x, none⟩ :: l) s K := by
  subst hc; simp only [wL, wpL, wpG, wpK, pstep, PS.evc, hx, hn, if_true]; exact h _
theorem build_ {zs cs : List CV} {ps : List (Nat × Nat × PO)} {vs : List (Nat × Nat × CV)} (hp : partsC s ps = some vs) (hf : fillC zs vs = some cs)
    (h : wL C l (s.put d (.c (.agg cs))) K) : wL C (⟨some d, .build zs ps, none⟩ :: l) s K := by
  simp only [wL, wpL, wpG, wpK, pstep, hp, hf, Option.map_some, PS.putO]; exact h
theorem bsl_ {sz len : Nat} {zc : List CV} {es : List (List CV)} {ps : List (Nat × PO)} {vs : List (Nat × CV)} (hp : partsS s ps = some vs) (hf : fillS (List.replicate len zc) vs = some es)
    (h : wL C l (s.put d (.c (.sl es))) K) : wL C (⟨some d, .bsl sz len zc ps false, none⟩ :: l) s K := by
  simp only [wL, wpL, wpG, wpK, pstep, hp, hf, PS.putO]; exact h
theorem bsl_own {sz len n : Nat} {zc : List CV} {es : List (List CV)} {ps : List (Nat × PO)} {vs : List (Nat × CV)} (hp : partsS s ps = some vs) (hf : fillS (List.replicate len zc) vs = some es) (hn : es.length = n)
    (h : ∀ w, wL C l ((s.box d ⟨w, .sl sz es⟩).put d (.osl d w 0 n)) K) : wL C (⟨some d, .bsl sz len zc ps true, none⟩ :: l) s K := by
  subst hn; simp only [wL, wpL, wpG, wpK, pstep, hp, hf]; exact h _

theorem load_rp {f : Bool} {n : Nat} {cs : List CV} {v : CV} {av : List Nat} (hx : s.ev x = .rp cs) (hn : n ≤ cs.length) (hv : rdc f n cs = v)
    (h : wL C l (s.put d (.c v)) K) : wL C (⟨some d, .load f n x av, none⟩ :: l) s K := by
  subst hv; simp only [wL, wpL, wpG, wpK, pstep, hx, if_pos hn, PS.putO]; exact h
theorem load_ptr {f : Bool} {n e w o : Nat} {cs : List CV} {v : CV} {av : List Nat} (hx : s.ev x = .ptr e w o) (ha : e ∉ av) (hb : s.bx e = ⟨w, .var cs⟩) (hn : o + n ≤ cs.length)
    (hv : rdc f n (cs.drop o) = v) (h : wL C l (s.put d (.c v)) K) : wL C (⟨some d, .load f n x av, none⟩ :: l) s K := by
  subst hv; simp only [wL, wpL, wpG, wpK, pstep, hx, hb, if_neg ha, if_pos hn, true_and, PS.putO]; exact h
theorem load_sp {f : Bool} {n e w i o sz : Nat} {es : List (List CV)} {cs : List CV} {v : CV} {av : List Nat} (hx : s.ev x = .sp e w i o) (ha : e ∉ av) (hb : s.bx e = ⟨w, .sl sz es⟩)
    (he : es[i]? = some cs) (hn : o + n ≤ cs.length) (hv : rdc f n (cs.drop o) = v) (h : wL C l (s.put d (.c v)) K) : wL C (⟨some d, .load f n x av, none⟩ :: l) s K := by
  subst hv; simp only [wL, wpL, wpG, wpK, pstep, hx, hb, he, if_neg ha, if_pos hn, true_and, PS.putO]; exact h
theorem store_ptr {n e w o : Nat} {cs new : List CV} {v : CV} {av : List Nat} (hx : s.ev x = .ptr e w o) (hy : s.ev y = .c v) (ha : e ∉ av) (hb : s.bx e = ⟨w, .var cs⟩)
    (hl : v.cells.length = n) (hn : o + n ≤ cs.length) (hv : spl cs o v.cells = new) (h : wL C l (s.box e ⟨w, .var new⟩) K) : wL C (⟨none, .store n x y av, none⟩ :: l) s K := by
  subst hv; simp only [wL, wpL, wpG, wpK, pstep, PS.evc, hx, hy, hb, if_neg ha, hl, if_pos hn, true_and]; exact h
theorem store_sp {n e w i o sz : Nat} {es new : List (List CV)} {cs : List CV} {v : CV} {av : List Nat} (hx : s.ev x = .sp e w i o) (hy : s.ev y = .c v) (ha : e ∉ av) (hb : s.bx e = ⟨w, .sl sz es⟩)
    (he : es[i]? = some cs) (hl : v.cells.length = n) (hn : o + n ≤ cs.length) (hv : es.set i (spl cs o v.cells) = new) (h : wL C l (s.box e ⟨w, .sl sz new⟩) K) : wL C (⟨none, .store n x y av, none⟩ :: l) s K := by
  subst hv; simp only [wL, wpL, wpG, wpK, pstep, PS.evc, hx, hy, hb, he, if_neg ha, hl, if_pos hn, true_and]; exact h

theorem bin_ {op : BinOp} {u v w : CV} (hx : s.ev x = .c u) (hy : s.ev y = .c v) (hv : binC op u v = some w) (h : wL C l (s.put d (.c w)) K) : wL C (⟨some d, .bin op x y, none⟩ :: l) s K := by
  simp only [wL, wpL, wpG, wpK, pstep, PS.evc, hx, hy, hv, Option.map_some, PS.putO]; exact h
theorem lss_ (hx : s.ev x = .c (.int k a)) (hy : s.ev y = .c (.int k b)) (h : wL C l (s.put d (.c (.bool (decide (a < b))))) K) : wL C (⟨some d, .bin .lss x y, none⟩ :: l) s K :=
  bin_ hx hy (by simp [binC]) h
theorem leq_ (hx : s.ev x = .c (.int k a)) (hy : s.ev y = .c (.int k b)) (h : wL C l (s.put d (.c (.bool (decide (a ≤ b))))) K) : wL C (⟨some d, .bin .leq x y, none⟩ :: l) s K :=
  bin_ hx hy (by simp [binC]) h
theorem gtr_ (hx : s.ev x = .c (.int k a)) (hy : s.ev y = .c (.int k b)) (h : wL C l (s.put d (.c (.bool (decide (b < a))))) K) : wL C (⟨some d, .bin .gtr x y, none⟩ :: l) s K :=
  bin_ hx hy (by simp [binC]) h
theorem geq_ (hx : s.ev x = .c (.int k a)) (hy : s.ev y = .c (.int k b)) (h : wL C l (s.put d (.c (.bool (decide (b ≤ a))))) K) : wL C (⟨some d, .bin .geq x y, none⟩ :: l) s K :=
  bin_ hx hy (by simp [binC]) h
theorem eql_ (hx : s.ev x = .c (.int k a)) (hy : s.ev y = .c (.int k b)) (h : wL C l (s.put d (.c (.bool (a == b)))) K) : wL C (⟨some d, .bin .eql x y, none⟩ :: l) s K :=
  bin_ hx hy (by simp [binC]) h
theorem neq_ (hx : s.ev x = .c (.int k a)) (hy : s.ev y = .c (.int k b)) (h : wL C l (s.put d (.c (.bool (!(a == b))))) K) : wL C (⟨some d, .bin .neq x y, none⟩ :: l) s K :=
  bin_ hx hy (by simp [binC]) h
theorem eqs_t {ag : Bool} {sh : List LK} {u v : CV} {r : Bool} (hx : s.ev x = .c u) (hy : s.ev y = .c v) (hr : eqC ag sh u v = some r) (h : wL C l (s.put d (.c (.bool r))) K) :
    wL C (⟨some d, .eqs false ag sh x y, none⟩ :: l) s K := by
  simp only [wL, wpL, wpG, wpK, pstep, PS.evc, hx, hy, hr, Option.map_some, PS.putO]; exact h
theorem eqs_f {ag : Bool} {sh : List LK} {u v : CV} {r : Bool} (hx : s.ev x = .c u) (hy : s.ev y = .c v) (hr : eqC ag sh u v = some r) (h : wL C l (s.put d (.c (.bool (!r)))) K) :
    wL C (⟨some d, .eqs true ag sh x y, none⟩ :: l) s K := by
  simp only [wL, wpL, wpG, wpK, pstep, PS.evc, hx, hy, hr, Option.map_some, PS.putO]; exact h
theorem eqlB_ {a b : Bool} (hx : s.ev x = .c (.bool a)) (hy : s.ev y = .c (.bool b)) (h : wL C l (s.put d (.c (.bool (a == b)))) K) : wL C (⟨some d, .eqs false false [.b] x y, none⟩ :: l) s K :=
  eqs_t hx hy (by simp [eqC, shEq]) h
theorem neqB_ {a b : Bool} (hx : s.ev x = .c (.bool a)) (hy : s.ev y = .c (.bool b)) (h : wL C l (s.put d (.c (.bool (!(a == b))))) K) : wL C (⟨some d, .eqs true false [.b] x y, none⟩ :: l) s K :=
  eqs_f hx hy (by simp [eqC, shEq]) h
theorem eqd_ (hx : s.ev x = .c (.int k a)) (hy : s.ev y = .c (.int k b)) (h : wL C l (s.put d (.c (.bool (decide (a = b))))) K) : wL C (⟨some d, .bin .eql x y, none⟩ :: l) s K := by
  refine eql_ hx hy ?_
  have : (a == b) = decide (a = b) := by by_cases e : a = b <;> simp [e]
  rw [this]; exact h
theorem ned_ (hx : s.ev x = .c (.int k a)) (hy : s.ev y = .c (.int k b)) (h : wL C l (s.put d (.c (.bool (decide (a ≠ b))))) K) : wL C (⟨some d, .bin .neq x y, none⟩ :: l) s K := by
  refine neq_ hx hy ?_
  have : (!(a == b)) = decide (a ≠ b) := by by_cases e : a = b <;> simp [e]
  rw [this]; exact h
theorem lss_t (hx : s.ev x = .c (.int k a)) (hy : s.ev y = .c (.int k b)) (hc : a < b) (h : wL C l (s.put d (.c (.bool true))) K) : wL C (⟨some d, .bin .lss x y, none⟩ :: l) s K :=
  lss_ hx hy (by rw [decide_eq_true hc]; exact h)
theorem lss_f (hx : s.ev x = .c (.int k a)) (hy : s.ev y = .c (.int k b)) (hc : ¬ a < b) (h : wL C l (s.put d (.c (.bool false))) K) : wL C (⟨some d, .bin .lss x y, none⟩ :: l) s K :=
  lss_ hx hy (by rw [decide_eq_false hc]; exact h)
theorem leq_t (hx : s.ev x = .c (.int k a)) (hy : s.ev y = .c (.int k b)) (hc : a ≤ b) (h : wL C l (s.put d (.c (.bool true))) K) : wL C (⟨some d, .bin .leq x y, none⟩ :: l) s K :=
  leq_ hx hy (by rw [decide_eq_true hc]; exact h)
theorem leq_f (hx : s.ev x = .c (.int k a)) (hy : s.ev y = .c (.int k b)) (hc : ¬ a ≤ b) (h : wL C l (s.put d (.c (.bool false))) K) : wL C (⟨some d, .bin .leq x y, none⟩ :: l) s K :=
  leq_ hx hy (by rw [decide_eq_false hc]; exact h)
theorem gtr_t (hx : s.ev x = .c (.int k a)) (hy : s.ev y = .c (.int k b)) (hc : b < a) (h : wL C l (s.put d (.c (.bool true))) K) : wL C (⟨some d, .bin .gtr x y, none⟩ :: l) s K :=
  gtr_ hx hy (by rw [decide_eq_true hc]; exact h)
theorem gtr_f (hx : s.ev x = .c (.int k a)) (hy : s.ev y = .c (.int k b)) (hc : ¬ b < a) (h : wL C l (s.put d (.c (.bool false))) K) : wL C (⟨some d, .bin .gtr x y, none⟩ :: l) s K :=
  gtr_ hx hy (by rw [decide_eq_false hc]; exact h)
theorem geq_t (hx : s.ev x = .c (.int k a)) (hy : s.ev y = .c (.int k b)) (hc : b ≤ a) (h : wL C l (s.put d (.c (.bool true))) K) : wL C (⟨some d, .bin .geq x y, none⟩ :: l) s K :=
  geq_ hx hy (by rw [decide_eq_true hc]; exact h)
theorem geq_f (hx : s.ev x = .c (.int k a)) (hy : s.ev y = .c (.int k b)) (hc : ¬ b ≤ a) (h : wL C l (s.put d (.c (.bool false))) K) : wL C (⟨some d, .bin .geq x y, none⟩ :: l) s K :=
  geq_ hx hy (by rw [decide_eq_false hc]; exact h)
theorem eql_t (hx : s.ev x = .c (.int k a)) (hy : s.ev y = .c (.int k b)) (hc : a = b) (h : wL C l (s.put d (.c (.bool true))) K) : wL C (⟨some d, .bin .eql x y, none⟩ :: l) s K :=
  eqd_ hx hy (by rw [decide_eq_true hc]; exact h)
theorem eql_f (hx : s.ev x = .c (.int k a)) (hy : s.ev y = .c (.int k b)) (hc : ¬ a = b) (h : wL C l (s.put d (.c (.bool false))) K) : wL C (⟨some d, .bin .eql x y, none⟩ :: l) s K :=
  eqd_ hx hy (by rw [decide_eq_false hc]; exact h)
theorem neq_t (hx : s.ev x = .c (.int k a)) (hy : s.ev y = .c (.int k b)) (hc : a ≠ b) (h : wL C l (s.put d (.c (.bool true))) K) : wL C (⟨some d, .bin .neq x y, none⟩ :: l) s K :=
  ned_ hx hy (by rw [decide_eq_true hc]; exact h)
theorem neq_f (hx : s.ev x = .c (.int k a)) (hy : s.ev y = .c (.int k b)) (hc : ¬ a ≠ b) (h : wL C l (s.put d (.c (.bool false))) K) : wL C (⟨some d, .bin .neq x y, none⟩ :: l) s K :=
  ned_ hx hy (by rw [decide_eq_false hc]; exact h)
/-- a test that is not known yet: both ways -/
theorem g_splitd {p : Prop} [Decidable p] {g : Nat} {w : Bool} {o : Option Nat} {q : PK} (hg : s.t g = .c (.bool (decide p)))
    (h1 : p → wL C (⟨o, q, some (g, w)⟩ :: l) (s.put g (.c (.bool true))) K)
    (h0 : ¬ p → wL C (⟨o, q, some (g, w)⟩ :: l) (s.put g (.c (.bool false))) K) : wL C (⟨o, q, some (g, w)⟩ :: l) s K :=
  g_split hg (fun e => h1 (of_decide_eq_true e)) (fun e => h0 (of_decide_eq_false e))
theorem xf_ {g : XF} {xs : List PO} {cs : List CV} {v : CV} (hx : evcs s xs = some cs) (hr : xfC g cs = some v) (h : wL C l (s.put d (.c v)) K) : wL C (⟨some d, .xf g xs, none⟩ :: l) s K := by
  simp only [wL, wpL, wpG, wpK, pstep, hx, hr, Option.map_some, PS.putO]; exact h
theorem wrap64_in {n : Int} (h : -9223372036854775808 ≤ n ∧ n ≤ 9223372036854775807) : IntKind.i64.wrap n = n := by
  simp [IntKind.wrap, IntKind.bits, IntKind.signed]; omega
theorem add_in (hx : s.ev x = .c (.int .i64 a)) (hy : s.ev y = .c (.int .i64 b)) (hr : -9223372036854775808 ≤ a + b ∧ a + b ≤ 9223372036854775807)
    (h : wL C l (s.put d (.c (.int .i64 (a + b)))) K) : wL C (⟨some d, .bin .add x y, none⟩ :: l) s K :=
  bin_ hx hy (by simp only [binC, if_true]; rw [wrap64_in hr]) h
theorem sub_in (hx : s.ev x = .c (.int .i64 a)) (hy : s.ev y = .c (.int .i64 b)) (hr : -9223372036854775808 ≤ a - b ∧ a - b ≤ 9223372036854775807)
    (h : wL C l (s.put d (.c (.int .i64 (a - b)))) K) : wL C (⟨some d, .bin .sub x y, none⟩ :: l) s K :=
  bin_ hx hy (by simp only [binC, if_true]; rw [wrap64_in hr]) h
theorem add_ (hx : s.ev x = .c (.int k a)) (hy : s.ev y = .c (.int k b)) (h : wL C l (s.put d (.c (.int k (k.wrap (a + b))))) K) : wL C (⟨some d, .bin .add x y, none⟩ :: l) s K :=
  bin_ hx hy (by simp [binC]) h
theorem sub_ (hx : s.ev x = .c (.int k a)) (hy : s.ev y = .c (.int k b)) (h : wL C l (s.put d (.c (.int k (k.wrap (a - b))))) K) : wL C (⟨some d, .bin .sub x y, none⟩ :: l) s K :=
  bin_ hx hy (by simp [binC]) h
theorem not_ {b : Bool} (hx : s.ev x = .c (.bool b)) (h : wL C l (s.put d (.c (.bool (!b)))) K) : wL C (⟨some d, .un .not x, none⟩ :: l) s K := by
  simp only [wL, wpL, wpG, wpK, pstep, PS.evc, hx, unC, Option.map_some, PS.putO]; exact h
theorem notd_ {p : Prop} [Decidable p] (hx : s.ev x = .c (.bool (decide p))) (h : wL C l (s.put d (.c (.bool (decide (¬ p))))) K) : wL C (⟨some d, .un .not x, none⟩ :: l) s K := by
  refine not_ hx ?_
  rw [← decide_not]; exact h
theorem un_ {op : UnOp} {u v : CV} (hx : s.ev x = .c u) (hv : unC op u = some v) (h : wL C l (s.put d (.c v)) K) : wL C (⟨some d, .un op x, none⟩ :: l) s K := by
  simp only [wL, wpL, wpG, wpK, pstep, PS.evc, hx, hv, Option.map_some, PS.putO]; exact h
theorem conv_ {k' : IntKind} (hx : s.ev x = .c (.int k' n)) (h : wL C l (s.put d (.c (.int k (k.wrap n)))) K) : wL C (⟨some d, .conv k x, none⟩ :: l) s K := by
  simp only [wL, wpL, wpG, wpK, pstep, PS.evc, hx, PS.putO]; exact h
theorem fld_ {f : Bool} {o n : Nat} {cs : List CV} {v : CV} (hx : s.ev x = .c (.agg cs)) (hn : o + n ≤ cs.length) (hv : rdc f n (cs.drop o) = v) (h : wL C l (s.put d (.c v)) K) :
    wL C (⟨some d, .fld f o n x, none⟩ :: l) s K := by
  subst hv; simp only [wL, wpL, wpG, wpK, pstep, PS.evc, hx, if_pos hn, PS.putO]; exact h
theorem wrapu_in {n : Int} (h : 0 ≤ n ∧ n ≤ 18446744073709551615) : IntKind.u64.wrap n = n := by
  simp [IntKind.wrap, IntKind.bits, IntKind.signed]; omega
theorem addu_in (hx : s.ev x = .c (.int .u64 a)) (hy : s.ev y = .c (.int .u64 b)) (hr : 0 ≤ a + b ∧ a + b ≤ 18446744073709551615)
    (h : wL C l (s.put d (.c (.int .u64 (a + b)))) K) : wL C (⟨some d, .bin .add x y, none⟩ :: l) s K :=
  bin_ hx hy (by simp [binC, wrapu_in hr]) h
theorem subu_in (hx : s.ev x = .c (.int .u64 a)) (hy : s.ev y = .c (.int .u64 b)) (hr : 0 ≤ a - b ∧ a - b ≤ 18446744073709551615)
    (h : wL C l (s.put d (.c (.int .u64 (a - b)))) K) : wL C (⟨some d, .bin .sub x y, none⟩ :: l) s K :=
  bin_ hx hy (by simp [binC, wrapu_in hr]) h
theorem mulu_in (hx : s.ev x = .c (.int .u64 a)) (hy : s.ev y = .c (.int .u64 b)) (hr : 0 ≤ a * b ∧ a * b ≤ 18446744073709551615)
    (h : wL C l (s.put d (.c (.int .u64 (a * b)))) K) : wL C (⟨some d, .bin .mul x y, none⟩ :: l) s K :=
  bin_ hx hy (by simp [binC, wrapu_in hr]) h
theorem mul_in (hx : s.ev x = .c (.int .i64 a)) (hy : s.ev y = .c (.int .i64 b)) (hr : -9223372036854775808 ≤ a * b ∧ a * b ≤ 9223372036854775807)
    (h : wL C l (s.put d (.c (.int .i64 (a * b)))) K) : wL C (⟨some d, .bin .mul x y, none⟩ :: l) s K :=
  bin_ hx hy (by simp [binC, wrap64_in hr]) h
theorem mul_ (hx : s.ev x = .c (.int k a)) (hy : s.ev y = .c (.int k b)) (h : wL C l (s.put d (.c (.int k (k.wrap (a * b))))) K) : wL C (⟨some d, .bin .mul x y, none⟩ :: l) s K :=
  bin_ hx hy (by simp [binC]) h
theorem wrapu_mod (n : Int) : IntKind.u64.wrap n = n % 18446744073709551616 := by
  simp [IntKind.wrap, IntKind.bits, IntKind.signed]
theorem mulu_ (hx : s.ev x = .c (.int .u64 a)) (hy : s.ev y = .c (.int .u64 b)) (h : wL C l (s.put d (.c (.int .u64 (a * b % 18446744073709551616)))) K) : wL C (⟨some d, .bin .mul x y, none⟩ :: l) s K :=
  mul_ hx hy (by rw [wrapu_mod]; exact h)
theorem addu_ (hx : s.ev x = .c (.int .u64 a)) (hy : s.ev y = .c (.int .u64 b)) (h : wL C l (s.put d (.c (.int .u64 ((a + b) % 18446744073709551616)))) K) : wL C (⟨some d, .bin .add x y, none⟩ :: l) s K :=
  bin_ hx hy (by simp [binC, wrapu_mod]) h
theorem subu_ (hx : s.ev x = .c (.int .u64 a)) (hy : s.ev y = .c (.int .u64 b)) (h : wL C l (s.put d (.c (.int .u64 ((a - b) % 18446744073709551616)))) K) : wL C (⟨some d, .bin .sub x y, none⟩ :: l) s K :=
  bin_ hx hy (by simp [binC, wrapu_mod]) h
/-- to the right by a known number of places -/
theorem shr_n {k' : IntKind} {n : Nat} {m : Int} (hx : s.ev x = .c (.int k a)) (hy : s.ev y = .c (.int k' n)) (hn : n ≤ k.bits) (hm : (2 : Int) ^ n = m) (h : wL C l (s.put d (.c (.int k (a / m)))) K) : wL C (⟨some d, .bin .shr x y, none⟩ :: l) s K := by
  refine bin_ hx hy ?_ h
  have h0 : (0 : Int) ≤ 2 ^ n := Int.le_of_lt (Int.pow_pos (by decide))
  simp only [binC, shr, Int.toNat_natCast, hn, and_true, Int.natCast_nonneg, if_true, ← hm]
  rw [Int.fdiv_eq_ediv_of_nonneg _ h0]
/-- to the left by a known number of places -/
theorem shl_n {k' : IntKind} {n : Nat} {m : Int} (hx : s.ev x = .c (.int .u64 a)) (hy : s.ev y = .c (.int k' n)) (hn : n ≤ 64) (hm : (2 : Int) ^ n = m) (h : wL C l (s.put d (.c (.int .u64 (a * m % 18446744073709551616)))) K) : wL C (⟨some d, .bin .shl x y, none⟩ :: l) s K := by
  refine bin_ hx hy ?_ h
  have hb : IntKind.u64.bits = 64 := rfl
  simp only [binC, shl, Int.toNat_natCast, hb, hn, and_true, Int.natCast_nonneg, if_true, hm, wrapu_mod]
theorem and_mask (n : Nat) {m : Int} (hm : (2 : Int) ^ n - 1 = m) (hn : n ≤ 64) (hx : s.ev x = .c (.int .u64 a)) (hy : s.ev y = .c (.int .u64 m)) (ha : 0 ≤ a ∧ a ≤ 18446744073709551615) (h : wL C l (s.put d (.c (.int .u64 (a % 2 ^ n)))) K) :
    wL C (⟨some d, .bin .and x y, none⟩ :: l) s K := by
  refine bin_ hx hy ?_ h
  obtain ⟨A, rfl⟩ := Int.eq_ofNat_of_zero_le ha.1
  have e1 : m = ((2 ^ n - 1 : Nat) : Int) := by
    rw [← hm, Int.natCast_sub (Nat.one_le_two_pow), Int.natCast_pow]; rfl
  have hb : IntKind.u64.bits = 64 := rfl
  have e2 : ((BitVec.ofInt 64 (A : Int)) &&& BitVec.ofInt 64 m).toNat = A % 2 ^ n := by
    subst e1
    rw [BitVec.ofInt_natCast, BitVec.ofInt_natCast, BitVec.toNat_and, BitVec.toNat_ofNat, BitVec.toNat_ofNat]
    have h1 : A % 2 ^ 64 = A := Nat.mod_eq_of_lt (by omega)
    have h2 : (2 ^ n - 1) % 2 ^ 64 = 2 ^ n - 1 := Nat.mod_eq_of_lt (by
      have : 2 ^ n ≤ 2 ^ 64 := Nat.pow_le_pow_right (by decide) hn
      have := Nat.pow_pos (n := n) (show 0 < 2 by decide)
      omega)
    rw [h1, h2, Nat.and_two_pow_sub_one_eq_mod]
  have h3 : A % 2 ^ n ≤ A := Nat.mod_le _ _
  have e3 : ((A % 2 ^ n : Nat) : Int) = (A : Int) % 2 ^ n := by simp
  have h4 : ((A % 2 ^ n : Nat) : Int) ≤ A := by exact_mod_cast h3
  show some (CV.int .u64 (IntKind.u64.wrap (((BitVec.ofInt 64 (A : Int)) &&& BitVec.ofInt 64 m).toNat : Nat))) = _
  rw [e2, wrapu_in (by omega), e3]
theorem conv_u (hx : s.ev x = .c (.int k a)) (h : wL C l (s.put d (.c (.int .u64 (a % 18446744073709551616)))) K) : wL C (⟨some d, .conv .u64 x, none⟩ :: l) s K :=
  conv_ hx (by rw [wrapu_mod]; exact h)
theorem conv_in {k' : IntKind} (hx : s.ev x = .c (.int k a)) (hw : k'.wrap a = a) (h : wL C l (s.put d (.c (.int k' a))) K) : wL C (⟨some d, .conv k' x, none⟩ :: l) s K :=
  conv_ hx (by rw [hw]; exact h)
theorem wrap64_hi {n : Int} (h : 9223372036854775808 ≤ n ∧ n ≤ 18446744073709551615) : IntKind.i64.wrap n = n - 18446744073709551616 := by
  simp [IntKind.wrap, IntKind.bits, IntKind.signed]; omega
theorem conv_s {n : Int} (hx : s.ev x = .c (.int k a)) (hw : IntKind.i64.wrap a = n) (h : wL C l (s.put d (.c (.int .i64 n))) K) : wL C (⟨some d, .conv .i64 x, none⟩ :: l) s K :=
  conv_ hx (by rw [hw]; exact h)
theorem neg_in (hx : s.ev x = .c (.int .i64 a)) (hr : -9223372036854775807 ≤ a ∧ a ≤ 9223372036854775808) (h : wL C l (s.put d (.c (.int .i64 (-a)))) K) : wL C (⟨some d, .un .neg x, none⟩ :: l) s K := by
  refine un_ hx (v := .int .i64 (-a)) ?_ h
  simp only [unC, Int.zero_sub, wrap64_in (n := -a) (by omega)]
theorem negu_ (hx : s.ev x = .c (.int .u64 a)) (h : wL C l (s.put d (.c (.int .u64 (-a % 18446744073709551616)))) K) : wL C (⟨some d, .un .neg x, none⟩ :: l) s K := by
  refine un_ hx (v := .int .u64 (-a % 18446744073709551616)) ?_ h
  simp only [unC, Int.zero_sub, wrapu_mod]
theorem fad_ptr {o e w i j : Nat} {cs : List CV} (hx : s.ev x = .ptr e w i) (hb : s.bx e = ⟨w, .var cs⟩) (hj : i + o = j) (h : wL C l (s.put d (.ptr e w j)) K) : wL C (⟨some d, .fad o x, none⟩ :: l) s K := by
  subst hj; simp only [wL, wpL, wpG, wpK, pstep, hx, hb, if_true, PS.putO]; exact h
theorem fad_rp {o : Nat} {cs cs' : List CV} (hx : s.ev x = .rp cs) (ho : o ≤ cs.length) (hj : cs.drop o = cs') (h : wL C l (s.put d (.rp cs')) K) : wL C (⟨some d, .fad o x, none⟩ :: l) s K := by
  subst hj; simp only [wL, wpL, wpG, wpK, pstep, hx, if_pos ho, PS.putO]; exact h
theorem fad_sp {o e w u i j sz : Nat} {es : List (List CV)} (hx : s.ev x = .sp e w u i) (hb : s.bx e = ⟨w, .sl sz es⟩) (hj : i + o = j) (h : wL C l (s.put d (.sp e w u j)) K) : wL C (⟨some d, .fad o x, none⟩ :: l) s K := by
  subst hj; simp only [wL, wpL, wpG, wpK, pstep, hx, hb, if_true, PS.putO]; exact h
theorem iaA_ptr {len sz e w o j : Nat} {cs : List CV} (hx : s.ev x = .ptr e w o) (hy : s.ev y = .c (.int k n)) (hb : s.bx e = ⟨w, .var cs⟩) (hn : 0 ≤ n ∧ n < (len : Int)) (hj : o + n.toNat * sz = j)
    (h : wL C l (s.put d (.ptr e w j)) K) : wL C (⟨some d, .iaA len sz x y, none⟩ :: l) s K := by
  subst hj; simp only [wL, wpL, wpG, wpK, pstep, PS.evc, hx, hy, hb, if_pos hn, if_true, PS.putO]; exact h
theorem iaA_rp {len sz : Nat} {cs cs' : List CV} (hx : s.ev x = .rp cs) (hy : s.ev y = .c (.int k n)) (hn : 0 ≤ n ∧ n < (len : Int)) (ho : n.toNat * sz ≤ cs.length) (hj : cs.drop (n.toNat * sz) = cs')
    (h : wL C l (s.put d (.rp cs')) K) : wL C (⟨some d, .iaA len sz x y, none⟩ :: l) s K := by
  subst hj; simp only [wL, wpL, wpG, wpK, pstep, PS.evc, hx, hy, if_pos hn, if_pos ho, PS.putO]; exact h
theorem iaA_sp {len sz e w u o j sz' : Nat} {es : List (List CV)} (hx : s.ev x = .sp e w u o) (hy : s.ev y = .c (.int k n)) (hb : s.bx e = ⟨w, .sl sz' es⟩) (hn : 0 ≤ n ∧ n < (len : Int)) (hj : o + n.toNat * sz = j)
    (h : wL C l (s.put d (.sp e w u j)) K) : wL C (⟨some d, .iaA len sz x y, none⟩ :: l) s K := by
  subst hj; simp only [wL, wpL, wpG, wpK, pstep, PS.evc, hx, hy, hb, if_pos hn, if_true, PS.putO]; exact h
theorem iaS_c {sz : Nat} {es : List (List CV)} {e : List CV} (hx : s.ev x = .c (.sl es)) (hy : s.ev y = .c (.int k n)) (h0 : 0 ≤ n) (he : es[n.toNat]? = some e) (hz : e.length = sz)
    (h : wL C l (s.put d (.rp e)) K) : wL C (⟨some d, .iaS sz x y, none⟩ :: l) s K := by
  have hlt : n.toNat < es.length := by
    rcases Nat.lt_or_ge n.toNat es.length with h | h
    · exact h
    · simp [List.getElem?_eq_none h] at he
  have hg : es.getD n.toNat [] = e := by simp [List.getD, he]
  simp only [wL, wpL, wpG, wpK, pstep, PS.evc, hx, hy, if_pos (show 0 ≤ n ∧ n < (es.length : Int) from ⟨h0, by omega⟩), hg, hz, if_true, PS.putO]; exact h
theorem iaS_osl {sz e w o len j : Nat} {es : List (List CV)} (hx : s.ev x = .osl e w o len) (hy : s.ev y = .c (.int k n)) (hb : s.bx e = ⟨w, .sl sz es⟩) (hn : 0 ≤ n ∧ n < (len : Int)) (hj : n.toNat = j)
    (h : wL C l (s.put d (.sp e w j 0)) K) : wL C (⟨some d, .iaS sz x y, none⟩ :: l) s K := by
  subst hj; simp only [wL, wpL, wpG, wpK, pstep, PS.evc, hx, hy, hb, true_and, if_pos hn, PS.putO]; exact h
theorem idS_ {b : ByteArray} {c : UInt8} (hx : s.ev x = .c (.str b)) (hy : s.ev y = .c (.int k n)) (hn : 0 ≤ n) (hc : b[n.toNat]? = some c) (h : wL C l (s.put d (.c (.int .u8 c.toNat))) K) :
    wL C (⟨some d, .idS x y, none⟩ :: l) s K := by
  simp only [wL, wpL, wpG, wpK, pstep, PS.evc, hx, hy, if_pos hn, hc, PS.putO]; exact h
theorem idA_ {f : Bool} {len sz : Nat} {cs : List CV} {v : CV} (hx : s.ev x = .c (.agg cs)) (hy : s.ev y = .c (.int k n)) (hn : 0 ≤ n ∧ n < (len : Int) ∧ len * sz ≤ cs.length)
    (hv : rdc f sz (cs.drop (n.toNat * sz)) = v) (h : wL C l (s.put d (.c v)) K) : wL C (⟨some d, .idA f len sz x y, none⟩ :: l) s K := by
  subst hv; simp only [wL, wpL, wpG, wpK, pstep, PS.evc, hx, hy, if_pos hn, PS.putO]; exact h
theorem ext_ {vs : List CV} {j : Nat} {v : CV} (hx : s.ev x = .c (.tup vs)) (hj : vs[j]? = some v) (h : wL C l (s.put d (.c v)) K) : wL C (⟨some d, .ext x j, none⟩ :: l) s K := by
  simp only [wL, wpL, wpG, wpK, pstep, PS.evc, hx, hj, PS.putO]; exact h
theorem len_sl {es : List (List CV)} {n : Nat} (hx : s.ev x = .c (.sl es)) (hn : es.length = n) (h : wL C l (s.put d (.c (.int .i64 (n : Nat)))) K) : wL C (⟨some d, .len x, none⟩ :: l) s K := by
  subst hn; simp only [wL, wpL, wpG, wpK, pstep, hx, PS.putO]; exact h
theorem len_str {b : ByteArray} (hx : s.ev x = .c (.str b)) (h : wL C l (s.put d (.c (.int .i64 b.size))) K) : wL C (⟨some d, .lenS x, none⟩ :: l) s K := by
  simp only [wL, wpL, wpG, wpK, pstep, PS.evc, hx, PS.putO]; exact h
theorem len_osl {e w o n sz : Nat} {es : List (List CV)} (hx : s.ev x = .osl e w o n) (hb : s.bx e = ⟨w, .sl sz es⟩) (h : wL C l (s.put d (.c (.int .i64 (n : Nat)))) K) : wL C (⟨some d, .len x, none⟩ :: l) s K := by
  simp only [wL, wpL, wpG, wpK, pstep, hx, hb, if_true, PS.putO]; exact h
theorem app_own {sz e w n m : Nat} {es ys zs : List (List CV)} (hx : s.ev x = .osl e w 0 n) (hy : s.ev y = .c (.sl ys)) (hb : s.bx e = ⟨w, .sl sz es⟩) (hn : n = es.length)
    (hr : es.length + ys.length ≤ maxGrow) (hw : ∀ e ∈ ys, e.length = sz) (hz : es ++ ys = zs) (hm : zs.length = m)
    (h : ∀ q u, wL C l (((s.box e ⟨q, .dead⟩).box d ⟨u, .sl sz zs⟩).put d (.osl d u 0 m)) K) : wL C (⟨some d, .app sz x y true, none⟩ :: l) s K := by
  subst hz; subst hm; have hc : n = es.length ∧ es.length + ys.length ≤ maxGrow ∧ ∀ e ∈ ys, e.length = sz := ⟨hn, hr, hw⟩
  simp only [wL, wpL, wpG, wpK, pstep, PS.evc, hx, hy, hb, true_and, if_pos hc, if_true]; exact h _ _
theorem app_cl {sz e w n : Nat} {es ys zs : List (List CV)} (hx : s.ev x = .osl e w 0 n) (hy : s.ev y = .c (.sl ys)) (hb : s.bx e = ⟨w, .sl sz es⟩) (hn : n = es.length)
    (hr : es.length + ys.length ≤ maxGrow) (hw : ∀ e ∈ ys, e.length = sz) (hz : es ++ ys = zs)
    (h : ∀ q, wL C l ((s.box e ⟨q, .dead⟩).put d (.c (.sl zs))) K) : wL C (⟨some d, .app sz x y false, none⟩ :: l) s K := by
  subst hz; have hc : n = es.length ∧ es.length + ys.length ≤ maxGrow ∧ ∀ e ∈ ys, e.length = sz := ⟨hn, hr, hw⟩
  simp only [wL, wpL, wpG, wpK, pstep, PS.evc, hx, hy, hb, true_and, if_pos hc, Bool.false_eq_true, if_false]; exact h _
theorem slc_c {sz : Nat} {lo hi : Option PO} {es zs : List (List CV)} {i j : Nat} (hx : s.ev x = .c (.sl es)) (hl : bound s 0 lo = some i) (hh : bound s es.length hi = some j) (hij : i ≤ j ∧ j ≤ es.length)
    (hw : ∀ e ∈ es, e.length = sz) (hz : (es.take j).drop i = zs) (h : wL C l (s.put d (.c (.sl zs))) K) : wL C (⟨some d, .slc sz x lo hi, none⟩ :: l) s K := by
  subst hz; have hc : i ≤ j ∧ j ≤ es.length ∧ ∀ e ∈ es, e.length = sz := ⟨hij.1, hij.2, hw⟩
  simp only [wL, wpL, wpG, wpK, pstep, hx, hl, hh, if_pos hc, PS.putO]; exact h
theorem slS_ {lo hi : Option PO} {b c : ByteArray} {i j : Nat} (hx : s.ev x = .c (.str b)) (hl : bound s 0 lo = some i) (hh : bound s b.size hi = some j) (hij : i ≤ j ∧ j ≤ b.size)
    (hz : b.extract i j = c) (h : wL C l (s.put d (.c (.str c))) K) : wL C (⟨some d, .slS x lo hi, none⟩ :: l) s K := by
  subst hz; simp only [wL, wpL, wpG, wpK, pstep, PS.evc, hx, hl, hh, if_pos hij, PS.putO]; exact h
theorem nilc_ptr {e w o : Nat} {cs : List CV} (hx : s.ev x = .ptr e w o) (hb : s.bx e = ⟨w, .var cs⟩) (h : wL C l (s.put d (.ptr e w o)) K) : wL C (⟨some d, .nilc x, none⟩ :: l) s K := by
  simp only [wL, wpL, wpG, wpK, pstep, hx, hb, if_true, PS.putO]; exact h
theorem nilc_rp {cs : List CV} (hx : s.ev x = .rp cs) (h : wL C l (s.put d (.rp cs)) K) : wL C (⟨some d, .nilc x, none⟩ :: l) s K := by
  simp only [wL, wpL, wpG, wpK, pstep, hx, PS.putO]; exact h
theorem mki_ {t : TypeId} {v : CV} (hx : s.ev x = .c v) (h : wL C l (s.put d (.c (.iface t v))) K) : wL C (⟨some d, .mki t x, none⟩ :: l) s K := by
  simp only [wL, wpL, wpG, wpK, pstep, PS.evc, hx, PS.putO]; exact h

theorem mm_min (hx : s.ev x = .c (.int k a)) (hy : s.ev y = .c (.int k b)) (h : wL C l (s.put d (.c (.int k (if b < a then b else a)))) K) : wL C (⟨some d, .mm false x [y], none⟩ :: l) s K := by
  simp only [wL, wpL, wpG, wpK, pstep, foldMm, PS.evc, hx, hy, if_true, Bool.false_eq_true, if_false, PS.putO]; exact h
theorem mm_max (hx : s.ev x = .c (.int k a)) (hy : s.ev y = .c (.int k b)) (h : wL C l (s.put d (.c (.int k (if b > a then b else a)))) K) : wL C (⟨some d, .mm true x [y], none⟩ :: l) s K := by
  simp only [wL, wpL, wpG, wpK, pstep, foldMm, PS.evc, hx, hy, if_true, PS.putO]; exact h

theorem call0 {f : FuncId} {r : CV} (hC : C f [] (.c r) []) (h : wL C l (s.put d (.c r)) K) :
    wL C (⟨some d, .call false f [], none⟩ :: l) s K := by
  simp only [wL, wpL, wpG, wpK, wpCall, evcs, PS.evc]; exact ⟨r, hC, h⟩
theorem call1 {f : FuncId} {x1 : PO} {v1 : CV} {r : CV} (h1 : s.ev x1 = .c v1) (hC : C f [.c v1] (.c r) []) (h : wL C l (s.put d (.c r)) K) :
    wL C (⟨some d, .call false f [x1], none⟩ :: l) s K := by
  simp only [wL, wpL, wpG, wpK, wpCall, evcs, PS.evc, h1]; exact ⟨r, hC, h⟩
theorem call2 {f : FuncId} {x1 x2 : PO} {v1 v2 : CV} {r : CV} (h1 : s.ev x1 = .c v1) (h2 : s.ev x2 = .c v2) (hC : C f [.c v1, .c v2] (.c r) []) (h : wL C l (s.put d (.c r)) K) :
    wL C (⟨some d, .call false f [x1, x2], none⟩ :: l) s K := by
  simp only [wL, wpL, wpG, wpK, wpCall, evcs, PS.evc, h1, h2]; exact ⟨r, hC, h⟩
theorem call3 {f : FuncId} {x1 x2 x3 : PO} {v1 v2 v3 : CV} {r : CV} (h1 : s.ev x1 = .c v1) (h2 : s.ev x2 = .c v2) (h3 : s.ev x3 = .c v3) (hC : C f [.c v1, .c v2, .c v3] (.c r) []) (h : wL C l (s.put d (.c r)) K) :
    wL C (⟨some d, .call false f [x1, x2, x3], none⟩ :: l) s K := by
  simp only [wL, wpL, wpG, wpK, wpCall, evcs, PS.evc, h1, h2, h3]; exact ⟨r, hC, h⟩
theorem call4 {f : FuncId} {x1 x2 x3 x4 : PO} {v1 v2 v3 v4 : CV} {r : CV} (h1 : s.ev x1 = .c v1) (h2 : s.ev x2 = .c v2) (h3 : s.ev x3 = .c v3) (h4 : s.ev x4 = .c v4) (hC : C f [.c v1, .c v2, .c v3, .c v4] (.c r) []) (h : wL C l (s.put d (.c r)) K) :
    wL C (⟨some d, .call false f [x1, x2, x3, x4], none⟩ :: l) s K := by
  simp only [wL, wpL, wpG, wpK, wpCall, evcs, PS.evc, h1, h2, h3, h4]; exact ⟨r, hC, h⟩
theorem call5 {f : FuncId} {x1 x2 x3 x4 x5 : PO} {v1 v2 v3 v4 v5 : CV} {r : CV} (h1 : s.ev x1 = .c v1) (h2 : s.ev x2 = .c v2) (h3 : s.ev x3 = .c v3) (h4 : s.ev x4 = .c v4) (h5 : s.ev x5 = .c v5) (hC : C f [.c v1, .c v2, .c v3, .c v4, .c v5] (.c r) []) (h : wL C l (s.put d (.c r)) K) :
    wL C (⟨some d, .call false f [x1, x2, x3, x4, x5], none⟩ :: l) s K := by
  simp only [wL, wpL, wpG, wpK, wpCall, evcs, PS.evc, h1, h2, h3, h4, h5]; exact ⟨r, hC, h⟩
theorem call6 {f : FuncId} {x1 x2 x3 x4 x5 x6 : PO} {v1 v2 v3 v4 v5 v6 : CV} {r : CV} (h1 : s.ev x1 = .c v1) (h2 : s.ev x2 = .c v2) (h3 : s.ev x3 = .c v3) (h4 : s.ev x4 = .c v4) (h5 : s.ev x5 = .c v5) (h6 : s.ev x6 = .c v6) (hC : C f [.c v1, .c v2, .c v3, .c v4, .c v5, .c v6] (.c r) []) (h : wL C l (s.put d (.c r)) K) :
    wL C (⟨some d, .call false f [x1, x2, x3, x4, x5, x6], none⟩ :: l) s K := by
  simp only [wL, wpL, wpG, wpK, wpCall, evcs, PS.evc, h1, h2, h3, h4, h5, h6]; exact ⟨r, hC, h⟩
theorem call7 {f : FuncId} {x1 x2 x3 x4 x5 x6 x7 : PO} {v1 v2 v3 v4 v5 v6 v7 : CV} {r : CV} (h1 : s.ev x1 = .c v1) (h2 : s.ev x2 = .c v2) (h3 : s.ev x3 = .c v3) (h4 : s.ev x4 = .c v4) (h5 : s.ev x5 = .c v5) (h6 : s.ev x6 = .c v6) (h7 : s.ev x7 = .c v7) (hC : C f [.c v1, .c v2, .c v3, .c v4, .c v5, .c v6, .c v7] (.c r) []) (h : wL C l (s.put d (.c r)) K) :
    wL C (⟨some d, .call false f [x1, x2, x3, x4, x5, x6, x7], none⟩ :: l) s K := by
  simp only [wL, wpL, wpG, wpK, wpCall, evcs, PS.evc, h1, h2, h3, h4, h5, h6, h7]; exact ⟨r, hC, h⟩
theorem callO0 {f : FuncId} {e w n m sz sz' : Nat} {es zs : List (List CV)} (hx : s.ev x = .osl e w 0 n) (hb : s.bx e = ⟨w, .sl sz es⟩) (hn : n = es.length) (hC : C f [.own sz es] (.own sz' zs) []) (hm : zs.length = m)
    (h : ∀ q u, wL C l (((s.box e ⟨q, .dead⟩).box d ⟨u, .sl sz' zs⟩).put d (.osl d u 0 m)) K) : wL C (⟨some d, .call true f [x], none⟩ :: l) s K := by
  subst hm; simp only [wL, wpL, wpG, wpK, wpCall, evcs, PS.evc, hx, hb, true_and]; exact ⟨hn, .own sz' zs, fun _ _ _ => rfl, hC, h _ _⟩
theorem callC0 {f : FuncId} {e w n sz : Nat} {r : CV} {es : List (List CV)} (hx : s.ev x = .osl e w 0 n) (hb : s.bx e = ⟨w, .sl sz es⟩) (hn : n = es.length) (hC : C f [.own sz es] (.c r) [])
    (h : ∀ q, wL C l ((s.box e ⟨q, .dead⟩).put d (.c r)) K) : wL C (⟨some d, .call true f [x], none⟩ :: l) s K := by
  simp only [wL, wpL, wpG, wpK, wpCall, evcs, PS.evc, hx, hb, true_and]; exact ⟨hn, .c r, (fun _ _ h => by cases h), hC, h _⟩
theorem callI0 {f : FuncId} {e w : Nat} {c0 c1 : List CV} {r : CV} (hx : s.ev x = .ptr e w 0) (hb : s.bx e = ⟨w, .var c0⟩) (hC : C f [.io c0] (.c r) [c1])
    (h : wL C l ((s.box e ⟨w, .var c1⟩).put d (.c r)) K) : wL C (⟨some d, .call true f [x], none⟩ :: l) s K := by
  simp only [wL, wpL, wpG, wpK, wpCall, evcs, PS.evc, hx, hb, true_and]; exact ⟨r, c1, hC, h⟩
theorem callO1 {f : FuncId} {x1 : PO} {v1 : CV} {e w n m sz sz' : Nat} {es zs : List (List CV)} (hx : s.ev x = .osl e w 0 n) (hb : s.bx e = ⟨w, .sl sz es⟩) (hn : n = es.length) (h1 : s.ev x1 = .c v1) (hC : C f [.own sz es, .c v1] (.own sz' zs) []) (hm : zs.length = m)
    (h : ∀ q u, wL C l (((s.box e ⟨q, .dead⟩).box d ⟨u, .sl sz' zs⟩).put d (.osl d u 0 m)) K) : wL C (⟨some d, .call true f [x, x1], none⟩ :: l) s K := by
  subst hm; simp only [wL, wpL, wpG, wpK, wpCall, evcs, PS.evc, hx, hb, h1, true_and]; exact ⟨hn, .own sz' zs, fun _ _ _ => rfl, hC, h _ _⟩
theorem callC1 {f : FuncId} {x1 : PO} {v1 : CV} {e w n sz : Nat} {r : CV} {es : List (List CV)} (hx : s.ev x = .osl e w 0 n) (hb : s.bx e = ⟨w, .sl sz es⟩) (hn : n = es.length) (h1 : s.ev x1 = .c v1) (hC : C f [.own sz es, .c v1] (.c r) [])
    (h : ∀ q, wL C l ((s.box e ⟨q, .dead⟩).put d (.c r)) K) : wL C (⟨some d, .call true f [x, x1], none⟩ :: l) s K := by
  simp only [wL, wpL, wpG, wpK, wpCall, evcs, PS.evc, hx, hb, h1, true_and]; exact ⟨hn, .c r, (fun _ _ h => by cases h), hC, h _⟩
theorem callI1 {f : FuncId} {x1 : PO} {v1 : CV} {e w : Nat} {c0 c1 : List CV} {r : CV} (hx : s.ev x = .ptr e w 0) (hb : s.bx e = ⟨w, .var c0⟩) (h1 : s.ev x1 = .c v1) (hC : C f [.io c0, .c v1] (.c r) [c1])
    (h : wL C l ((s.box e ⟨w, .var c1⟩).put d (.c r)) K) : wL C (⟨some d, .call true f [x, x1], none⟩ :: l) s K := by
  simp only [wL, wpL, wpG, wpK, wpCall, evcs, PS.evc, hx, hb, h1, true_and]; exact ⟨r, c1, hC, h⟩
theorem callO2 {f : FuncId} {x1 x2 : PO} {v1 v2 : CV} {e w n m sz sz' : Nat} {es zs : List (List CV)} (hx : s.ev x = .osl e w 0 n) (hb : s.bx e = ⟨w, .sl sz es⟩) (hn : n = es.length) (h1 : s.ev x1 = .c v1) (h2 : s.ev x2 = .c v2) (hC : C f [.own sz es, .c v1, .c v2] (.own sz' zs) []) (hm : zs.length = m)
    (h : ∀ q u, wL C l (((s.box e ⟨q, .dead⟩).box d ⟨u, .sl sz' zs⟩).put d (.osl d u 0 m)) K) : wL C (⟨some d, .call true f [x, x1, x2], none⟩ :: l) s K := by
  subst hm; simp only [wL, wpL, wpG, wpK, wpCall, evcs, PS.evc, hx, hb, h1, h2, true_and]; exact ⟨hn, .own sz' zs, fun _ _ _ => rfl, hC, h _ _⟩
theorem callC2 {f : FuncId} {x1 x2 : PO} {v1 v2 : CV} {e w n sz : Nat} {r : CV} {es : List (List CV)} (hx : s.ev x = .osl e w 0 n) (hb : s.bx e = ⟨w, .sl sz es⟩) (hn : n = es.length) (h1 : s.ev x1 = .c v1) (h2 : s.ev x2 = .c v2) (hC : C f [.own sz es, .c v1, .c v2] (.c r) [])
    (h : ∀ q, wL C l ((s.box e ⟨q, .dead⟩).put d (.c r)) K) : wL C (⟨some d, .call true f [x, x1, x2], none⟩ :: l) s K := by
  simp only [wL, wpL, wpG, wpK, wpCall, evcs, PS.evc, hx, hb, h1, h2, true_and]; exact ⟨hn, .c r, (fun _ _ h => by cases h), hC, h _⟩
theorem callI2 {f : FuncId} {x1 x2 : PO} {v1 v2 : CV} {e w : Nat} {c0 c1 : List CV} {r : CV} (hx : s.ev x = .ptr e w 0) (hb : s.bx e = ⟨w, .var c0⟩) (h1 : s.ev x1 = .c v1) (h2 : s.ev x2 = .c v2) (hC : C f [.io c0, .c v1, .c v2] (.c r) [c1])
    (h : wL C l ((s.box e ⟨w, .var c1⟩).put d (.c r)) K) : wL C (⟨some d, .call true f [x, x1, x2], none⟩ :: l) s K := by
  simp only [wL, wpL, wpG, wpK, wpCall, evcs, PS.evc, hx, hb, h1, h2, true_and]; exact ⟨r, c1, hC, h⟩
theorem callO3 {f : FuncId} {x1 x2 x3 : PO} {v1 v2 v3 : CV} {e w n m sz sz' : Nat} {es zs : List (List CV)} (hx : s.ev x = .osl e w 0 n) (hb : s.bx e = ⟨w, .sl sz es⟩) (hn : n = es.length) (h1 : s.ev x1 = .c v1) (h2 : s.ev x2 = .c v2) (h3 : s.ev x3 = .c v3) (hC : C f [.own sz es, .c v1, .c v2, .c v3] (.own sz' zs) []) (hm : zs.length = m)
    (h : ∀ q u, wL C l (((s.box e ⟨q, .dead⟩).box d ⟨u, .sl sz' zs⟩).put d (.osl d u 0 m)) K) : wL C (⟨some d, .call true f [x, x1, x2, x3], none⟩ :: l) s K := by
  subst hm; simp only [wL, wpL, wpG, wpK, wpCall, evcs, PS.evc, hx, hb, h1, h2, h3, true_and]; exact ⟨hn, .own sz' zs, fun _ _ _ => rfl, hC, h _ _⟩
theorem callC3 {f : FuncId} {x1 x2 x3 : PO} {v1 v2 v3 : CV} {e w n sz : Nat} {r : CV} {es : List (List CV)} (hx : s.ev x = .osl e w 0 n) (hb : s.bx e = ⟨w, .sl sz es⟩) (hn : n = es.length) (h1 : s.ev x1 = .c v1) (h2 : s.ev x2 = .c v2) (h3 : s.ev x3 = .c v3) (hC : C f [.own sz es, .c v1, .c v2, .c v3] (.c r) [])
    (h : ∀ q, wL C l ((s.box e ⟨q, .dead⟩).put d (.c r)) K) : wL C (⟨some d, .call true f [x, x1, x2, x3], none⟩ :: l) s K := by
  simp only [wL, wpL, wpG, wpK, wpCall, evcs, PS.evc, hx, hb, h1, h2, h3, true_and]; exact ⟨hn, .c r, (fun _ _ h => by cases h), hC, h _⟩
theorem callI3 {f : FuncId} {x1 x2 x3 : PO} {v1 v2 v3 : CV} {e w : Nat} {c0 c1 : List CV} {r : CV} (hx : s.ev x = .ptr e w 0) (hb : s.bx e = ⟨w, .var c0⟩) (h1 : s.ev x1 = .c v1) (h2 : s.ev x2 = .c v2) (h3 : s.ev x3 = .c v3) (hC : C f [.io c0, .c v1, .c v2, .c v3] (.c r) [c1])
    (h : wL C l ((s.box e ⟨w, .var c1⟩).put d (.c r)) K) : wL C (⟨some d, .call true f [x, x1, x2, x3], none⟩ :: l) s K := by
  simp only [wL, wpL, wpG, wpK, wpCall, evcs, PS.evc, hx, hb, h1, h2, h3, true_and]; exact ⟨r, c1, hC, h⟩
end

section
variable {C : CallP} {s : PS} {K : Ex → PS → Prop} {p q : PCode}
theorem w_skip (h : K .n s) : wP C .skip s K := h
theorem w_ops {l : List POp} (h : wL C l s (K .n)) : wP C (.ops false l) s K := h
theorem w_opsD0 {l : List POp} (hn : newSites l = []) (h : wL C l s (K .n)) : wP C (.ops true l) s K := by
  simp only [wP, pwp, if_true, hn, PS.kills]; exact h
theorem w_opsD1 {l : List POp} {e : Nat} (hn : newSites l = [e]) (h : ∀ q, wL C l (s.box e ⟨q, .dead⟩) (K .n)) : wP C (.ops true l) s K := by
  simp only [wP, pwp, if_true, hn, PS.kills]; exact h _
theorem w_opsD2 {l : List POp} {e f : Nat} (hn : newSites l = [e, f]) (h : ∀ q r, wL C l ((s.box e ⟨q, .dead⟩).box f ⟨r, .dead⟩) (K .n)) : wP C (.ops true l) s K := by
  simp only [wP, pwp, if_true, hn, PS.kills]; exact h _ _
theorem w_opsD3 {l : List POp} {e f g : Nat} (hn : newSites l = [e, f, g]) (h : ∀ q r t, wL C l (((s.box e ⟨q, .dead⟩).box f ⟨r, .dead⟩).box g ⟨t, .dead⟩) (K .n)) : wP C (.ops true l) s K := by
  simp only [wP, pwp, if_true, hn, PS.kills]; exact h _ _ _
theorem w_opsD4 {l : List POp} {e f g i : Nat} (hn : newSites l = [e, f, g, i]) (h : ∀ q r t u, wL C l ((((s.box e ⟨q, .dead⟩).box f ⟨r, .dead⟩).box g ⟨t, .dead⟩).box i ⟨u, .dead⟩) (K .n)) : wP C (.ops true l) s K := by
  simp only [wP, pwp, if_true, hn, PS.kills]; exact h _ _ _ _
theorem w_seq (h : wP C p s (xT (fun s' => wP C q s' K) K)) : wP C (.seq p q) s K := h
theorem w_exit {id : Nat} (h : K (.x id) s) : wP C (.exit id) s K := h
theorem w_ret (h : K .r s) : wP C .ret s K := h
theorem w_block {id : Nat} (h : wP C p s (xB id K)) : wP C (.block id p) s K := h
theorem w_true {x : PO} (hx : s.ev x = .c (.bool true)) (h : wP C p s K) : wP C (.cond x p q) s K := by
  simp only [wP, pwp, hx]; exact ⟨fun _ => h, fun h => by cases h⟩
theorem w_false {x : PO} (hx : s.ev x = .c (.bool false)) (h : wP C q s K) : wP C (.cond x p q) s K := by
  simp only [wP, pwp, hx]; exact ⟨(fun h => by cases h), fun _ => h⟩
theorem w_cond {x : PO} {b : Bool} (hx : s.ev x = .c (.bool b)) (h1 : b = true → wP C p s K) (h0 : b = false → wP C q s K) : wP C (.cond x p q) s K := by
  simp only [wP, pwp, hx]; exact ⟨h1, h0⟩
theorem w_condd {x : PO} {b : Prop} [Decidable b] (hx : s.ev x = .c (.bool (decide b))) (h1 : b → wP C p s K) (h0 : ¬ b → wP C q s K) : wP C (.cond x p q) s K :=
  w_cond hx (fun e => h1 (of_decide_eq_true e)) (fun e => h0 (of_decide_eq_false e))
theorem th_n {N : PS → Prop} (h : N s) : xT N K .n s := h
theorem th_x {N : PS → Prop} {i : Nat} (h : K (.x i) s) : xT N K (.x i) s := h
theorem th_r {N : PS → Prop} (h : K .r s) : xT N K .r s := h
theorem bk_n {id : Nat} (h : K .n s) : xB id K .n s := h
theorem bk_r {id : Nat} (h : K .r s) : xB id K .r s := h
theorem bk_x {id : Nat} (h : K .n s) : xB id K (.x id) s := by simp only [xB, Ex.blk, if_true]; exact h
theorem bk_y {id j : Nat} (hj : j ≠ id) (h : K (.x j) s) : xB id K (.x j) s := by simp only [xB, Ex.blk, if_neg hj]; exact h
theorem w_fz_osl {i e w n sz : Nat} {es : List (List CV)} (hx : s.t i = .osl e w 0 n) (hb : s.bx e = ⟨w, .sl sz es⟩) (hn : n = es.length) (h : ∀ q, wP C p ((s.box e ⟨q, .dead⟩).put i (.c (.sl es))) K) : wP C (.fz i p) s K := by
  simp only [wP, pwp, hx, PS.close, hb, true_and, if_pos hn]; exact h _
theorem w_fz_c {i : Nat} {v : CV} (hx : s.t i = .c v) (h : wP C p s K) : wP C (.fz i p) s K := by
  simp only [wP, pwp, hx]; exact h

theorem w_rn_same {i e w o n : Nat} (hx : s.t i = .osl e w o n) (h : wP C p s K) : wP C (.rn i e p) s K := by
  simp only [wP, pwp, hx]; exact ⟨fun _ => h, fun hn => absurd rfl hn⟩
theorem w_rn {i d e w n sz : Nat} {es : List (List CV)} (hx : s.t i = .osl d w 0 n) (hne : d ≠ e) (hb : s.bx d = ⟨w, .sl sz es⟩) (hn : n = es.length)
    (h : ∀ q u, wP C p (((s.box d ⟨q, .dead⟩).box e ⟨u, .sl sz es⟩).put i (.osl e u 0 n)) K) : wP C (.rn i e p) s K := by
  simp only [wP, pwp, hx, hb, true_and]; exact ⟨fun he => absurd he hne, fun _ => ⟨hn, h _ _⟩⟩

theorem wpCall_mono {m : Bool} {f : FuncId} {args : List PO} {dst : Option Nat} {s : PS} {K K' : PS → Prop} (hk : ∀ s, K s → K' s) (h : wpCall C m f args dst s K) : wpCall C m f args dst s K' := by
  unfold wpCall at *
  split at h
  · split at h
    · obtain ⟨r, hc, h⟩ := h; exact ⟨r, hc, hk _ h⟩
    · exact h
  · split at h
    · split at h
      · obtain ⟨h0, r, h1, hc, h⟩ := h; exact ⟨h0, r, h1, hc, hk _ h⟩
      · exact h
    · split at h
      · obtain ⟨h0, r, c1, hc, h⟩ := h; exact ⟨h0, r, c1, hc, hk _ h⟩
      · exact h
    · exact h
  · exact h
theorem wpK_mono {o : POp} {s : PS} {K K' : PS → Prop} (hk : ∀ s, K s → K' s) (h : wpK C o s K) : wpK C o s K' := by
  obtain ⟨d, q, g⟩ := o
  cases q <;> simp only [wpK] at h ⊢
  case call m f args => exact wpCall_mono hk h
  all_goals (split at h <;> first | exact hk _ h | exact h)
theorem wpG_mono {o : POp} {s : PS} {K K' : PS → Prop} (hk : ∀ s, K s → K' s) (h : wpG C o s K) : wpG C o s K' := by
  unfold wpG at *
  split at h
  · exact wpK_mono hk h
  · split at h
    · exact ⟨fun e => wpK_mono hk (h.1 e), fun e => hk _ (h.2 e)⟩
    · exact hk _ h
    · exact h
theorem wpL_mono {l : List POp} : ∀ {s : PS} {K K' : PS → Prop}, (∀ s, K s → K' s) → wpL C l s K → wpL C l s K' := by
  induction l with
  | nil => intro s K K' hk h; exact hk _ h
  | cons o l ih => intro s K K' hk h; exact wpG_mono (fun _ h => ih hk h) h
theorem pwp_mono {p : PCode} : ∀ {s : PS} {K K' : Ex → PS → Prop}, (∀ e s, K e s → K' e s) → pwp C p s K → pwp C p s K' := by
  induction p with
  | skip => intro s K K' hk h; exact hk _ _ h
  | ops d l => intro s K K' hk h; exact wpL_mono (hk _) h
  | seq a b iha ihb => intro s K K' hk h; exact iha (fun e s h => by cases e <;> first | exact ihb hk h | exact hk _ _ h) h
  | cond x a b iha ihb =>
    intro s K K' hk h
    simp only [pwp] at h ⊢
    split at h
    · exact ⟨fun e => iha hk (h.1 e), fun e => ihb hk (h.2 e)⟩
    · exact h
  | block id a iha =>
    intro s K K' hk h
    refine iha (fun e s h => ?_) h
    cases e <;> simp only [Ex.blk] at h ⊢
    · exact hk _ _ h
    · split at h <;> (rename_i hj; first | rw [if_pos hj] | rw [if_neg hj]) <;> exact hk _ _ h
    · exact hk _ _ h
  | loop a iha =>
    intro s K K' hk h X hX
    exact h X fun s h => hX s (iha (fun e s h => by cases e <;> first | exact h | exact hk _ _ h) h)
  | exit id => intro s K K' hk h; exact hk _ _ h
  | ret => intro s K K' hk h; exact hk _ _ h
  | fz i a iha =>
    intro s K K' hk h
    simp only [pwp] at h ⊢
    split at h
    · split at h
      · exact iha hk h
      · exact h
    · exact iha hk h
    · exact h
  | rn i e a iha =>
    intro s K K' hk h
    simp only [pwp] at h ⊢
    split at h
    · refine ⟨fun e => iha hk (h.1 e), fun e => ?_⟩
      have h2 := h.2 e
      split at h2
      · exact ⟨h2.1, iha hk h2.2⟩
      · exact h2
    · exact h

/-- a round of a loop, and what stands behind it -/
theorem w_loop (h : wP C p s (xT (fun s' => wP C (.loop p) s' K) K)) : wP C (.loop p) s K := by
  intro X hX
  apply hX
  refine pwp_mono (fun e s' he => ?_) h
  cases e
  · exact he X hX
  · exact he
  · exact he

/-- a state told anew: what is kept of it, on a ground of which nothing is known -/
theorem rb_c {b : PS} {i : Nat} {v : CV} (hb : b = s) (hv : s.t i = .c v) (h : b.put i (.c v) = s → wP C p (b.put i (.c v)) K) : wP C p b K := by
  subst hb; rw [put_same hv] at h; exact h rfl
theorem rb_ptr {b : PS} {i e w o : Nat} (hb : b = s) (hv : s.t i = .ptr e w o) (h : b.put i (.ptr e w o) = s → wP C p (b.put i (.ptr e w o)) K) : wP C p b K := by
  subst hb; rw [put_same hv] at h; exact h rfl
theorem rb_osl {b : PS} {i e w o n : Nat} (hb : b = s) (hv : s.t i = .osl e w o n) (h : b.put i (.osl e w o n) = s → wP C p (b.put i (.osl e w o n)) K) : wP C p b K := by
  subst hb; rw [put_same hv] at h; exact h rfl
theorem box_same {s : PS} {g : Nat} {v : Box} (h : s.bx g = v) : s.box g v = s := by
  cases s; simp only [PS.box, PS.mk.injEq, true_and]; funext i; split
  · rename_i e; subst e; exact h.symm
  · rfl
theorem rb_var {b : PS} {i w : Nat} {cs : List CV} (hb : b = s) (hv : s.bx i = ⟨w, .var cs⟩) (h : b.box i ⟨w, .var cs⟩ = s → wP C p (b.box i ⟨w, .var cs⟩) K) : wP C p b K := by
  subst hb; rw [box_same hv] at h; exact h rfl
theorem rb_sl {b : PS} {i w sz : Nat} {es : List (List CV)} (hb : b = s) (hv : s.bx i = ⟨w, .sl sz es⟩) (h : b.box i ⟨w, .sl sz es⟩ = s → wP C p (b.box i ⟨w, .sl sz es⟩) K) : wP C p b K := by
  subst hb; rw [box_same hv] at h; exact h rfl
end
attribute [irreducible] wL wP xT xB
end Go.Pl

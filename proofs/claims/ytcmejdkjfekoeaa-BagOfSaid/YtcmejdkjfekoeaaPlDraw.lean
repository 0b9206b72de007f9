/-
  REGIONS: in the text's order, and in whatever order. My own work.
-/
import Derived.Test.YtcmejdkjfekoeaaPlReg
namespace Go.Pl
open Go
set_option linter.unusedVariables false
set_option linter.unusedSimpArgs false

def storeOk (p : POp) : Bool := match p.k with
  | .store _ _ _ _ => p.dst.isNone
  | _ => true
theorem storeOk_spec {p : POp} (h : storeOk p = true) : (∃ n x y av, p.k = .store n x y av) → p.dst = none := by
  rintro ⟨n, x, y, av, hk⟩
  simp only [storeOk, hk] at h
  simpa using h

section
variable {O A0 : Nat → Prop} {w0 w : World} {β : Bt} {s : PS} {a : Act} {P : Program}

/-- One operation of a region, guard and all. -/
theorem op_wpOp {ops : Array Oper} {i : Nat} {o : Oper} {p : POp} {n : Nat} (hi : ops[i]? = some o) (hc : chkP P n ops o p = true) (hn : a.tmps.size = n) (h : Sim O w0 A0 β s (tmf a) w) {K : PS → Prop} (hw : wpG (PCallG P) p s K)
    {next : Act → World → Prop} {Q : Exit → Act → World → Prop}
    (hnext : ∀ β' s' a' w', Sim O w0 A0 β' s' (tmf a') w' → a'.tmps.size = n → a'.defers = a.defers → K s' → next a' w') : wpOp P ops Q i next a w := by
  simp only [chkP, Bool.and_eq_true, decide_eq_true_eq] at hc
  obtain ⟨⟨⟨hdst, hdn⟩, hg⟩, hk⟩ := hc
  have hd : dstOk o.dst a.tmps.size := by
    intro d e
    rw [e] at hdn
    rw [hn]
    simpa using hdn
  have run : wpK (PCallG P) p s K → o.wp P a w next Q := fun hw => op_wp (ops := ops) (n := n) hk hdst hd h hw fun β' s' v w' hS hK => hnext β' s' _ w' hS (by rw [put_size]; exact hn) (put_defers _ _ _) hK
  have skip : K (s.putO p.dst .undef) → next (a.put o.dst undef) w := fun hK => hnext β _ _ w (h.putO o.dst hd .undef undef rfl) (by rw [put_size]; exact hn) (put_defers _ _ _) (by rw [hdst]; exact hK)
  unfold wpOp
  simp only [hi]
  unfold wpG at hw
  cases hog : o.guard with
  | none =>
    have hpg : p.g = none := by
      cases hpg : p.g with
      | none => rfl
      | some x => rw [hog, hpg] at hg; cases hg
    rw [hpg] at hw
    have : Region.wanted o (yielded ops a.tmps) = true := by simp [Region.wanted, hog]
    rw [if_pos this]
    exact .inl (run hw)
  | some jw =>
    obtain ⟨j, want⟩ := jw
    cases hpg : p.g with
    | none => rw [hog, hpg] at hg; cases hg
    | some tw =>
      obtain ⟨t, want'⟩ := tw
      rw [hog, hpg] at hg
      simp only [chkG, Bool.and_eq_true, beq_iff_eq, decide_eq_true_eq] at hg
      obtain ⟨rfl, hjt⟩ := hg
      rw [hpg] at hw
      simp only at hw
      have hT := h.temps t
      split at hw
      · rename_i b hb
        rw [hb] at hT
        have hT := V.bool_inv hT
        have hget : a.tmps[t]? = some (.bool b) := by
          simp only [tmf, Array.getD_eq_getD_getElem?] at hT
          cases hq : a.tmps[t]? with
          | none => rw [hq] at hT; simp [undef] at hT
          | some v => rw [hq] at hT; simp at hT; rw [hT]
        have hy : yielded ops a.tmps j = some b := by simp only [yielded, hjt, Option.bind_some, hget]
        have hwa : Region.wanted o (yielded ops a.tmps) = (b == want) := by simp [Region.wanted, hog, hy]
        rw [hwa]
        by_cases hbw : b = want
        · rw [if_pos (by simpa using hbw)]
          exact .inl (run (hw.1 hbw))
        · rw [if_neg (by simpa using hbw)]
          exact skip (hw.2 hbw)
      · rename_i hb
        rw [hb] at hT
        have hT : tmf a t = undef := hT
        have hy : yielded ops a.tmps j = none := by
          simp only [yielded, hjt, Option.bind_some]
          simp only [tmf, Array.getD_eq_getD_getElem?] at hT
          cases hq : a.tmps[t]? with
          | none => rfl
          | some v => rw [hq] at hT; simp at hT; subst hT; rfl
        have hwa : Region.wanted o (yielded ops a.tmps) = false := by simp [Region.wanted, hog, hy]
        rw [hwa, if_neg (by simp)]
        exact skip hw
      · exact hw.elim

theorem wp_ex {o : Oper} {next : Act → World → Prop} (h : o.wp P a w next fun _ _ _ => False) : ∃ a' w', next a' w' := by
  unfold Oper.wp Oper.upon at h
  split at h
  · exact ⟨_, _, h⟩
  · exact ⟨_, _, h⟩
  · exact ⟨_, _, h⟩
  · obtain ⟨e, w', fr, hR, _⟩ := h []
    cases e with
    | returned v => exact ⟨_, _, hR⟩
    | panicked c => exact hR.elim
    | outgrown => exact (hR : LetsOut _).elim fun _ h => h.elim fun _ h => h.elim
  · obtain ⟨v, w', hR, _⟩ := h default []
    exact ⟨_, _, hR⟩
  · exact h.elim
  · exact h.elim

theorem wpOp_ex {ops : Array Oper} {i : Nat} {o : Oper} (hi : ops[i]? = some o) {next : Act → World → Prop} (h : wpOp P ops (fun _ _ _ => False) i next a w) : ∃ a' w', next a' w' := by
  unfold wpOp at h
  simp only [hi] at h
  split at h
  · rcases h with h | ⟨_, _, _, h⟩
    · exact wp_ex h
    · exact h.elim
  · exact ⟨_, _, h⟩
end

/-! ### In the text's order -/
def chkOps (P : Program) (n : Nat) (ops : Array Oper) : List Oper → List POp → Bool
  | [], [] => true
  | o :: l, p :: m => chkP P n ops o p && chkOps P n ops l m
  | _, _ => false

theorem chkOps_get {P : Program} {n : Nat} {ops : Array Oper} : ∀ {l : List Oper} {m : List POp}, chkOps P n ops l m = true → l.length = m.length ∧ ∀ (i : Nat) (h1 : i < l.length) (h2 : i < m.length), chkP P n ops l[i] m[i] = true
  | [], [], _ => ⟨rfl, fun i h => by simp at h⟩
  | [], _ :: _, h => by cases h
  | _ :: _, [], h => by cases h
  | o :: l, p :: m, h => by
    simp only [chkOps, Bool.and_eq_true] at h
    obtain ⟨h1, h2⟩ := chkOps_get h.2
    refine ⟨by simp [h1], fun i hi hj => ?_⟩
    cases i with
    | zero => exact h.1
    | succ i => exact h2 i (by simpa using hi) (by simpa using hj)

section
variable {O A0 : Nat → Prop} {w0 : World} {P : Program} {ops : Array Oper} {pl : List POp} {n : Nat}

theorem seq_ops (hc : chkOps P n ops ops.toList pl = true) {K : PS → Prop} {Q : Exit → Act → World → Prop} (hQ : ∀ β s a w, Sim O w0 A0 β s (tmf a) w → a.tmps.size = n → a.defers = [] → K s → Q .normal a w) :
    ∀ (m k : Nat), k + m = pl.length → ∀ (β : Bt) (s : PS) (a : Act) (w : World), Sim O w0 A0 β s (tmf a) w → a.tmps.size = n → a.defers = [] → wpL (PCallG P) (pl.drop k) s K → wpOps P ops Q (List.range' k m) a w
  | 0, k, hk, β, s, a, w, h, hn, hd, hw => by
    rw [List.drop_of_length_le (by omega)] at hw
    exact hQ β s a w h hn hd hw
  | m + 1, k, hk, β, s, a, w, h, hn, hd, hw => by
    obtain ⟨hl, hg⟩ := chkOps_get hc
    have hkl : k < pl.length := by omega
    have hko : k < ops.toList.length := by omega
    rw [List.drop_eq_getElem_cons hkl] at hw
    rw [List.range'_succ, wpOps_cons]
    have hi : ops[k]? = some ops.toList[k] := by simp
    refine op_wpOp hi (hg k hko hkl) hn h hw fun β' s' a' w' hS hn' hd' hK => ?_
    exact seq_ops hc hQ m (k + 1) (by omega) β' s' a' w' hS hn' (hd'.trans hd) hK

/-! ### In whatever order -/
def okNew (p q : POp) : Bool := !(isNew p.k && isNew q.k && p.dst.isSome && decide (p.dst = q.dst))

def dmask (acc : List Nat) (o : Oper) : Nat := o.after.toList.foldl (fun m e => if Region.binds .any e then m ||| (2 ^ e.on ||| acc.getD e.on 0) else m) 0
def masks : List Oper → List Nat → List Nat
  | [], acc => acc
  | o :: l, acc => masks l (acc ++ [dmask acc o])

/-- 'i' stands ahead of 'j' in each order -/
inductive Ahead (ops : Array Oper) : Nat → Nat → Prop where
  | edge (i j : Nat) (o : Oper) (e : Edge) (ho : ops[j]? = some o) (he : e ∈ o.after.toList) (hb : Region.binds .any e = true) (hi : e.on = i) : Ahead ops i j
  | trans (i j k : Nat) (h : Ahead ops i j) (h' : Ahead ops j k) : Ahead ops i k

theorem dmask_sound {acc : List Nat} {o : Oper} {j : Nat} (ho : ops[j]? = some o) (hacc : ∀ k i, (acc.getD k 0).testBit i = true → Ahead ops i k) {i : Nat} (h : (dmask acc o).testBit i = true) : Ahead ops i j := by
  unfold dmask at h
  have key : ∀ (l : List Edge) (m : Nat), (∀ e ∈ l, e ∈ o.after.toList) → (l.foldl (fun m e => if Region.binds .any e then m ||| (2 ^ e.on ||| acc.getD e.on 0) else m) m).testBit i = true → m.testBit i = true ∨ Ahead ops i j := by
    intro l
    induction l with
    | nil => intro m _ h; exact .inl h
    | cons e l ih =>
      intro m hl h
      simp only [List.foldl_cons] at h
      rcases ih _ (fun x hx => hl x (by simp [hx])) h with h | h
      · split at h
        · rename_i hb
          simp only [Nat.testBit_or, Bool.or_eq_true] at h
          rcases h with h | h | h
          · exact .inl h
          · rw [Nat.testBit_two_pow] at h
            have : e.on = i := by simpa using h
            exact .inr (.edge i j o e ho (hl e (by simp)) hb this)
          · exact .inr (.trans i e.on j (hacc _ _ h) (.edge e.on j o e ho (hl e (by simp)) hb rfl))
        · exact .inl h
      · exact .inr h
  rcases key o.after.toList 0 (fun e he => he) h with h | h
  · simp at h
  · exact h

theorem masks_sound : ∀ (l : List Oper) (acc : List Nat), (∀ k (hk : k < l.length), ops[acc.length + k]? = some l[k]) → (∀ k i, (acc.getD k 0).testBit i = true → Ahead ops i k) →
    ∀ k i, ((masks l acc).getD k 0).testBit i = true → Ahead ops i k
  | [], acc, _, hacc => hacc
  | o :: l, acc, hl, hacc => by
    refine masks_sound l (acc ++ [dmask acc o]) (fun k hk => ?_) (fun k i h => ?_)
    · have := hl (k + 1) (by simp; omega)
      simp only [List.length_append, List.length_singleton]
      rw [show acc.length + 1 + k = acc.length + (k + 1) by omega, this]
      rfl
    · rw [List.getD_eq_getElem?_getD] at h
      by_cases hk : k < acc.length
      · rw [List.getElem?_append_left hk, ← List.getD_eq_getElem?_getD] at h; exact hacc k i h
      · rw [List.getElem?_append_right (by omega)] at h
        by_cases hk' : k = acc.length
        · subst hk'
          simp at h
          exact dmask_sound (hl 0 (by simp)) hacc h
        · rw [List.getElem?_eq_none (by simp; omega)] at h
          simp at h

def chkPairs (ms : List Nat) (pl : List POp) : Bool :=
  (List.range pl.length).all fun j => (List.range j).all fun i => okNew (pl.getD i default) (pl.getD j default) && ((ms.getD j 0).testBit i || okPair (pl.getD i default) (pl.getD j default))

def edgesIn (md : Region.Mode) (o : Oper) (done : List Nat) : Bool := o.after.all fun e => !Region.binds md e || done.contains e.on
def chkTopo (md : Region.Mode) (ops : Array Oper) : List Nat → List Nat → Bool
  | [], done => (List.range ops.size).all done.contains
  | i :: l, done => (match ops[i]? with | some o => edgesIn md o done | none => false) && chkTopo md ops l (i :: done)

def chkDraw (P : Program) (n : Nat) (ops : Array Oper) (pl : List POp) : Bool :=
  chkOps P n ops ops.toList pl && pl.all storeOk && chkPairs (masks ops.toList []) pl && chkTopo .any ops (List.range ops.size) [] &&
    (!Region.departs ops || (chkTopo .text ops (List.range ops.size) [] && chkTopo .gc ops (Region.linearise .gc ops 0) []))

/-- some operation is ready as long as one is left -/
theorem topo_ready (md : Region.Mode) (listed : Array Bool) (hsz : listed.size = ops.size) : ∀ (l done : List Nat), chkTopo md ops l done = true → (∀ i ∈ done, listed.getD i false = true) →
    (∃ i, i < ops.size ∧ listed.getD i true = false) → Region.ready md ops listed ≠ []
  | [], done, h, hd, ⟨i, hi, hf⟩ => by
    simp only [chkTopo, List.all_eq_true, List.mem_range, List.contains_eq_mem, decide_eq_true_eq] at h
    have := hd i (h i hi)
    simp [hsz, hi] at hf this
    simp_all
  | i :: l, done, h, hd, hex => by
    simp only [chkTopo, Bool.and_eq_true] at h
    obtain ⟨h1, h2⟩ := h
    by_cases hl : listed.getD i false = true
    · refine topo_ready md listed hsz l (i :: done) h2 (fun k hk => ?_) hex
      rcases List.mem_cons.1 hk with rfl | hk
      · exact hl
      · exact hd k hk
    · intro hnil
      cases ho : ops[i]? with
      | none => rw [ho] at h1; cases h1
      | some o =>
        rw [ho] at h1
        have hi : i < ops.size := (Array.getElem?_eq_some_iff.1 ho).1
        have : i ∈ Region.ready md ops listed := by
          unfold Region.ready
          simp only [List.mem_filter, List.mem_range, Bool.and_eq_true, Bool.not_eq_true', ho, Option.map_some, Option.getD_some]
          refine ⟨hi, ?_, ?_⟩
          · have hi' : i < listed.size := by omega
            simp [hi'] at hl ⊢
            exact hl
          · simp only [edgesIn, Array.all_eq_true_iff_forall_mem, Bool.or_eq_true] at h1 ⊢
            intro e he
            rcases h1 e he with h | h
            · exact .inl h
            · exact .inr (hd _ (by simpa using h))
        rw [hnil] at this
        cases this
end
end Go.Pl

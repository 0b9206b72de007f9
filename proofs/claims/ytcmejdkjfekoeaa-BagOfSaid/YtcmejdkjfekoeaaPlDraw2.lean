/-
  REGIONS IN WHATEVER ORDER: the theorem. My own work.
-/
import Derived.Test.YtcmejdkjfekoeaaPlDraw
namespace Go.Pl
open Go
set_option linter.unusedVariables false
set_option linter.unusedSimpArgs false

def wpR (C : CallP) (pl : List POp) : List Nat → PS → (PS → Prop) → Prop
  | [], s, K => K s
  | i :: r, s, K => wpG C (pl.getD i default) s fun s' => wpR C pl r s' K

theorem wpR_mono {C : CallP} {pl : List POp} : ∀ {r : List Nat} {s : PS} {K K' : PS → Prop}, (∀ s, K s → K' s) → wpR C pl r s K → wpR C pl r s K'
  | [], _, _, _, hk, h => hk _ h
  | i :: r, s, K, K', hk, h => wpG_mono (fun s h => wpR_mono hk h) h

theorem wpR_of_wpL {C : CallP} {pl : List POp} {K : PS → Prop} : ∀ (m k : Nat), k + m = pl.length → ∀ s, wpL C (pl.drop k) s K → wpR C pl (List.range' k m) s K
  | 0, k, hk, s, h => by rw [List.drop_of_length_le (by omega)] at h; exact h
  | m + 1, k, hk, s, h => by
    have hkl : k < pl.length := by omega
    rw [List.drop_eq_getElem_cons hkl] at h
    rw [List.range'_succ]
    have : pl.getD k default = pl[k] := by simp [hkl]
    simp only [wpR, this]
    exact wpG_mono (fun s h => wpR_of_wpL m (k + 1) (by omega) s h) h

section
variable {O A0 : Nat → Prop} {w0 : World} {P : Program} {ops : Array Oper} {pl : List POp} {n : Nat}

def SimEx (O A0 : Nat → Prop) (w0 : World) (n : Nat) (s : PS) : Prop := ∃ β a w, Sim O w0 A0 β s (tmf a) w ∧ a.tmps.size = n ∧ a.defers = []

def DeadR (pl : List POp) (rem : List Nat) (s : PS) : Prop := ∀ i ∈ rem, isNew (pl.getD i default).k = true → ∀ d, (pl.getD i default).dst = some d → (s.bx d).st = .dead

structure Reg (P : Program) (n : Nat) (ops : Array Oper) (pl : List POp) : Prop where
  len : ops.size = pl.length
  chk : ∀ (i : Nat) (o : Oper), ops[i]? = some o → chkP P n ops o (pl.getD i default) = true
  store : ∀ i, i < pl.length → storeOk (pl.getD i default) = true
  new : ∀ i j, i < pl.length → j < pl.length → i ≠ j → okNew (pl.getD i default) (pl.getD j default) = true
  pair : ∀ i j, i < j → j < pl.length → Ahead ops i j ∨ okPair (pl.getD i default) (pl.getD j default) = true

theorem okNew_symm {p q : POp} (h : okNew p q = true) : okNew q p = true := by
  simp only [okNew, Bool.not_eq_true', Bool.and_eq_false_iff, decide_eq_false_iff_not] at h ⊢
  rcases h with ((h | h) | h) | h
  · exact .inl (.inl (.inr h))
  · exact .inl (.inl (.inl h))
  · by_cases e : p.dst = q.dst
    · exact .inl (.inr (by rw [← e]; exact h))
    · exact .inr fun e' => e e'.symm
  · exact .inr fun e' => h e'.symm

theorem Reg.of_chk (h : chkDraw P n ops pl = true) : Reg P n ops pl := by
  simp only [chkDraw, Bool.and_eq_true] at h
  obtain ⟨⟨⟨⟨h1, h2⟩, h3⟩, _⟩, _⟩ := h
  obtain ⟨hl, hg⟩ := chkOps_get h1
  simp only [Array.length_toList] at hl
  have hp : ∀ i j, i < j → j < pl.length → okNew (pl.getD i default) (pl.getD j default) = true ∧ (Ahead ops i j ∨ okPair (pl.getD i default) (pl.getD j default) = true) := by
    intro i j hij hj
    simp only [chkPairs, List.all_eq_true, List.mem_range, Bool.and_eq_true, Bool.or_eq_true] at h3
    obtain ⟨q1, q2⟩ := h3 j hj i hij
    refine ⟨q1, q2.imp (fun q => ?_) id⟩
    exact masks_sound ops.toList [] (fun k hk => by simp at hk ⊢) (fun k i h => by simp at h) j i q
  refine ⟨hl, fun i o ho => ?_, fun i hi => ?_, fun i j hi hj hij => ?_, fun i j hij hj => (hp i j hij hj).2⟩
  · obtain ⟨hi, rfl⟩ := Array.getElem?_eq_some_iff.1 ho
    have := hg i (by simpa using hi) (by omega)
    have e : pl.getD i default = pl[i]'(by omega) := by simp [show i < pl.length by omega]
    rw [e]
    simpa using this
  · have e : pl.getD i default = pl[i] := by simp [hi]
    rw [e]
    exact List.all_eq_true.1 h2 _ (List.getElem_mem hi)
  · rcases Nat.lt_or_gt_of_ne hij with h | h
    · exact (hp i j h hj).1
    · exact okNew_symm (hp j i h hi).1

theorem dead_step {C : CallP} {p : POp} {s s' : PS} {v : PV} {wb : Nat → Option Box} {act : Bool} (L : LocG C p s s' v wb act) {d : Nat} (hd : (s.bx d).st = .dead) (hne : ¬ (isNew p.k = true ∧ p.dst = some d)) : (s'.bx d).st = .dead := by
  rw [L.eq]
  show ((wb d).getD (s.bx d)).st = .dead
  cases hw : wb d with
  | none => exact hd
  | some b =>
    exfalso
    cases ha : act with
    | false => rw [L.wb0 ha] at hw; cases hw
    | true =>
      rcases L.wb1 ha d b hw with ⟨_, ⟨ver, hr⟩, _⟩ | ⟨_, ver, hr⟩ | ⟨hn, hde, _⟩
      · exact (L.live ha d ver hr (ref_key hr)).2 hd
      · exact (L.live ha d ver hr (ref_key hr)).2 hd
      · exact hne ⟨hn, hde⟩

/-- what holds on the way -/
theorem stepR (hR : Reg P n ops pl) {i : Nat} (hi : i < pl.length) {rem : List Nat} (hrem : ∀ j ∈ rem, j < pl.length ∧ j ≠ i) {s : PS} (hS : SimEx O A0 w0 n s) (hD : DeadR pl rem s) {K : PS → Prop} (h : wpG (PCallG P) (pl.getD i default) s K) :
    wpG (PCallG P) (pl.getD i default) s fun s1 => K s1 ∧ SimEx O A0 w0 n s1 ∧ DeadR pl rem s1 := by
  obtain ⟨s', v, wb, act, L, hK⟩ := locG (storeOk_spec (hR.store i hi)) h
  have hself : wpG (PCallG P) (pl.getD i default) s (· = s') := by
    have := L.again s (fun _ _ => rfl) fun _ => ⟨fun e ver _ => ⟨fun _ => kindEq.refl _, fun _ => rfl⟩, fun _ _ _ => rfl⟩
    rw [← L.eq] at this
    exact this
  refine wpG_mono (fun s1 hs1 => ?_) hself
  subst hs1
  refine ⟨hK, ?_, ?_⟩
  · obtain ⟨β, a, w, hs, hn, hd⟩ := hS
    have hio : i < ops.size := by rw [hR.len]; exact hi
    have ho : ops[i]? = some ops[i] := Array.getElem?_eq_getElem hio
    have := op_wpOp (next := fun a' w' => SimEx O A0 w0 n s1) (Q := fun _ _ _ => False) ho (hR.chk i _ ho) hn hs hself fun β' s2 a' w' hS' hn' hd' e => by
      subst e
      exact ⟨β', a', w', hS', hn', hd'.trans hd⟩
    obtain ⟨_, _, h⟩ := wpOp_ex ho this
    exact h
  · intro j hj hn d hde
    refine dead_step L (hD j hj hn d hde) ?_
    rintro ⟨hn', hde'⟩
    have := hR.new i j hi (hrem j hj).1 (Ne.symm (hrem j hj).2)
    unfold okNew at this
    rw [hn, hn', hde, hde'] at this
    simp at this

theorem moveFront (hR : Reg P n ops pl) {i : Nat} (hi : i < pl.length) {K : PS → Prop} : ∀ (pre post : List Nat) (s : PS), (∀ j ∈ pre, j < pl.length ∧ j ≠ i ∧ okPair (pl.getD j default) (pl.getD i default) = true) → (pre ++ i :: post).Nodup → (∀ j ∈ post, j < pl.length) →
    SimEx O A0 w0 n s → DeadR pl (pre ++ i :: post) s → wpR (PCallG P) pl (pre ++ i :: post) s K → wpR (PCallG P) pl (i :: (pre ++ post)) s K
  | [], post, s, _, _, _, _, _, h => h
  | j :: pre, post, s, hpre, hnd, hpost, hS, hD, h => by
    obtain ⟨hj, hji, hok⟩ := hpre j (by simp)
    simp only [List.cons_append, wpR] at h ⊢
    have hnd' : (pre ++ i :: post).Nodup ∧ j ∉ pre ++ i :: post := by
      simp only [List.cons_append, List.nodup_cons] at hnd; exact ⟨hnd.2, hnd.1⟩
    have hrem : ∀ k ∈ pre ++ i :: post, k < pl.length ∧ k ≠ j := by
      intro k hk
      refine ⟨?_, fun e => hnd'.2 (e ▸ hk)⟩
      rcases List.mem_append.1 hk with hk | hk
      · exact (hpre k (by simp [hk])).1
      · rcases List.mem_cons.1 hk with rfl | hk
        · exact hi
        · exact hpost k hk
    have h1 := stepR hR hj hrem hS (fun k hk => hD k (by simp only [List.cons_append, List.mem_cons]; exact .inr hk)) h
    have h2 : wpG (PCallG P) (pl.getD j default) s fun s1 => wpG (PCallG P) (pl.getD i default) s1 fun s2 => wpR (PCallG P) pl (pre ++ post) s2 K := by
      refine wpG_mono (fun s1 hs1 => ?_) h1
      have := moveFront hR hi pre post s1 (fun k hk => hpre k (by simp [hk])) hnd'.1 hpost hs1.2.1 hs1.2.2 hs1.1
      exact this
    obtain ⟨β, a, w, hsim, _, _⟩ := hS
    exact swap (storeOk_spec (hR.store j hj)) (storeOk_spec (hR.store i hi)) hok hsim.wf (fun hn d hde => hD j (by simp) hn d hde) (fun hn d hde => hD i (by simp) hn d hde) h2

theorem Ahead.listed {listed : Array Bool} (hcl : ∀ j, listed.getD j false = true → ∀ o e, ops[j]? = some o → e ∈ o.after.toList → Region.binds .any e = true → listed.getD e.on false = true) {i j : Nat} (h : Ahead ops i j) : listed.getD j false = true → listed.getD i false = true := by
  induction h with
  | edge i j o e ho he hb hi => intro hj; rw [← hi]; exact hcl j hj o e ho he hb
  | trans i j k _ _ ih1 ih2 => intro hk; exact ih1 (ih2 hk)

/-- the operations that are left, in the text's order -/
def left_ (m : Nat) (listed : Array Bool) : List Nat := (List.range m).filter fun i => !listed.getD i true

theorem mem_left {m : Nat} {listed : Array Bool} {i : Nat} : i ∈ left_ m listed ↔ i < m ∧ listed.getD i true = false := by
  simp [left_]

theorem left_set {m i : Nat} {listed : Array Bool} (hsz : listed.size = m) (hi : i < m) : left_ m (listed.setIfInBounds i true) = (left_ m listed).filter (· != i) := by
  unfold left_
  rw [List.filter_filter]
  refine List.filter_congr fun k hk => ?_
  have hk' : k < m := by simpa using hk
  by_cases e : k = i
  · subst e; simp [hsz, hk']
  · have : (listed.setIfInBounds i true)[k]? = listed[k]? := Array.getElem?_setIfInBounds_ne (Ne.symm e)
    simp only [Array.getD_eq_getD_getElem?, this]
    simp [e]

theorem filter_split {l : List Nat} (hn : l.Nodup) {i : Nat} (hi : i ∈ l) : ∃ pre post, l = pre ++ i :: post ∧ l.filter (· != i) = pre ++ post := by
  obtain ⟨pre, post, rfl⟩ := List.append_of_mem hi
  refine ⟨pre, post, rfl, ?_⟩
  rw [List.nodup_append] at hn
  obtain ⟨h1, h2, h3⟩ := hn
  rw [List.nodup_cons] at h2
  have e1 : pre.filter (· != i) = pre := List.filter_eq_self.2 fun k hk => by
    have := h3 k hk i (by simp); simpa using this
  have e2 : post.filter (· != i) = post := List.filter_eq_self.2 fun k hk => by
    have : k ≠ i := fun e => h2.1 (e ▸ hk)
    simpa using this
  simp [List.filter_append, e1, e2]

theorem any_order (hR : Reg P n ops pl) (md : Region.Mode) {ord : List Nat} (htopo : chkTopo md ops ord [] = true) (hmd : ∀ e, Region.binds .any e = true → Region.binds md e = true) {K : PS → Prop} {Q : Exit → Act → World → Prop}
    (hQ : ∀ β s a w, Sim O w0 A0 β s (tmf a) w → a.tmps.size = n → a.defers = [] → K s → Q .normal a w) :
    ∀ (fuel : Nat) (listed : Array Bool), listed.size = ops.size → (left_ ops.size listed).length = fuel →
    (∀ j, listed.getD j false = true → ∀ o e, ops[j]? = some o → e ∈ o.after.toList → Region.binds .any e = true → listed.getD e.on false = true) →
    ∀ (β : Bt) (s : PS) (a : Act) (w : World), Sim O w0 A0 β s (tmf a) w → a.tmps.size = n → a.defers = [] → DeadR pl (left_ ops.size listed) s → wpR (PCallG P) pl (left_ ops.size listed) s K → wpAny P md ops Q fuel listed a w
  | 0, listed, hsz, hfuel, hcl, β, s, a, w, hS, hn, hd, hD, h => by
    have h0 := List.eq_nil_of_length_eq_zero hfuel
    rw [h0] at h
    refine ⟨?_, hQ β s a w hS hn hd h⟩
    unfold Region.ready
    rw [List.filter_eq_nil_iff]
    intro k hk
    have hk' : k < ops.size := by simpa using hk
    have : ¬ k ∈ left_ ops.size listed := by rw [h0]; simp
    rw [mem_left] at this
    simp [hk'] at this ⊢
    intro h
    simp_all
  | fuel + 1, listed, hsz, hfuel, hcl, β, s, a, w, hS, hn, hd, hD, h => by
    have hnd : (left_ ops.size listed).Nodup := List.Pairwise.filter _ List.nodup_range
    refine ⟨fun hr => ?_, fun i hi => ?_⟩
    · exfalso
      have : ∃ i, i ∈ left_ ops.size listed := by
        cases hl : left_ ops.size listed with
        | nil => rw [hl] at hfuel; simp at hfuel
        | cons x l => exact ⟨x, by simp⟩
      obtain ⟨i, hi⟩ := this
      rw [mem_left] at hi
      exact topo_ready md listed hsz ord [] htopo (by simp) ⟨i, hi.1, hi.2⟩ hr
    · unfold Region.ready at hi
      simp only [List.mem_filter, List.mem_range, Bool.and_eq_true, Bool.not_eq_true'] at hi
      obtain ⟨hio, hun, hready⟩ := hi
      have ho : ops[i]? = some ops[i] := Array.getElem?_eq_getElem hio
      rw [ho] at hready
      simp only [Option.map_some, Option.getD_some, Array.all_eq_true_iff_forall_mem, Bool.or_eq_true, Bool.not_eq_true'] at hready
      have hil : i < pl.length := by rw [← hR.len]; exact hio
      have hmem : i ∈ left_ ops.size listed := mem_left.2 ⟨hio, hun⟩
      obtain ⟨pre, post, hsplit, hfil⟩ := filter_split hnd hmem
      rw [hsplit] at h hD hnd
      have hlt : ∀ k ∈ pre ++ i :: post, k < pl.length := fun k hk => by rw [← hR.len]; exact (mem_left.1 (hsplit ▸ hk)).1
      have hpre : ∀ j ∈ pre, j < pl.length ∧ j ≠ i ∧ okPair (pl.getD j default) (pl.getD i default) = true := by
        intro j hj
        have hjm : j ∈ left_ ops.size listed := hsplit ▸ List.mem_append_left _ hj
        have hji : j < i := by
          have hs : (pre ++ i :: post).Pairwise (· < ·) := hsplit ▸ List.Pairwise.filter _ List.pairwise_lt_range
          exact (List.pairwise_append.1 hs).2.2 j hj i (by simp)
        refine ⟨hlt j (List.mem_append_left _ hj), by omega, ?_⟩
        rcases hR.pair j i hji hil with ha | ha
        · exfalso
          -- it stands ahead of 'i', and so is listed
          have hlist : ∀ {x y : Nat}, Ahead ops x y → y = i → listed.getD x false = true := by
            intro x y hxy
            induction hxy with
            | edge x y o e ho' he hb hx =>
              intro hy
              subst hy
              rw [ho] at ho'
              cases ho'
              rcases hready e (by simpa using he) with h' | h'
              · rw [hmd e hb] at h'; cases h'
              · rw [← hx]; exact h'
            | trans x y z h1 h2 ih1 ih2 =>
              intro hz
              exact h1.listed hcl (ih2 hz)
          have := hlist ha rfl
          have hj2 := (mem_left.1 hjm).2
          have hjs : j < listed.size := by rw [hsz]; exact (mem_left.1 hjm).1
          simp [hjs] at this hj2
          rw [this] at hj2
          cases hj2
        · exact ha
      have hfront := moveFront hR hil pre post s hpre hnd (fun k hk => hlt k (by simp [hk])) ⟨β, a, w, hS, hn, hd⟩ hD h
      simp only [wpR] at hfront
      have hrem : ∀ k ∈ pre ++ post, k < pl.length ∧ k ≠ i := by
        intro k hk
        have hnn : i ∉ pre ++ post := by
          rw [List.nodup_append] at hnd
          obtain ⟨_, h2, h3⟩ := hnd
          rw [List.nodup_cons] at h2
          intro hm
          rcases List.mem_append.1 hm with hm | hm
          · exact h3 i hm i (by simp) rfl
          · exact h2.1 hm
        refine ⟨hlt k ?_, fun e => hnn (e ▸ hk)⟩
        rcases List.mem_append.1 hk with hk | hk
        · exact List.mem_append_left _ hk
        · exact List.mem_append_right _ (List.mem_cons_of_mem _ hk)
      have hD' : DeadR pl (pre ++ post) s := fun k hk => hD k (by
        rcases List.mem_append.1 hk with hk | hk
        · exact List.mem_append_left _ hk
        · exact List.mem_append_right _ (List.mem_cons_of_mem _ hk))
      have hstep := stepR hR hil hrem ⟨β, a, w, hS, hn, hd⟩ hD' hfront
      have hset := left_set hsz hio
      refine op_wpOp ho (hR.chk i _ ho) hn hS hstep fun β' s' a' w' hS' hn' hd' hK => ?_
      refine any_order hR md htopo hmd hQ fuel (listed.setIfInBounds i true) (by simpa using hsz) ?_ ?_ β' s' a' w' hS' hn' (hd'.trans hd) (by rw [hset, hfil]; exact hK.2.2) (by rw [hset, hfil]; exact hK.1)
      · rw [hset, hfil]
        rw [hsplit] at hfuel
        simp at hfuel ⊢
        omega
      · intro j hj o e ho' he hb
        by_cases hje : j = i
        · subst hje
          rw [ho] at ho'
          cases ho'
          rcases hready e (by simpa using he) with h' | h'
          · rw [hmd e hb] at h'; cases h'
          · by_cases hei : e.on = j
            · rw [hei]; simp [hsz, hio]
            · have : (listed.setIfInBounds j true)[e.on]? = listed[e.on]? := Array.getElem?_setIfInBounds_ne (Ne.symm hei)
              simp only [Array.getD_eq_getD_getElem?, this]
              simpa [Array.getD_eq_getD_getElem?] using h'
        · have e1 : (listed.setIfInBounds i true)[j]? = listed[j]? := Array.getElem?_setIfInBounds_ne (Ne.symm hje)
          have hj' : listed.getD j false = true := by
            simp only [Array.getD_eq_getD_getElem?, e1] at hj ⊢; exact hj
          have := hcl j hj' o e ho' he hb
          by_cases hei : e.on = i
          · rw [hei]; simp [hsz, hio]
          · have e2 : (listed.setIfInBounds i true)[e.on]? = listed[e.on]? := Array.getElem?_setIfInBounds_ne (Ne.symm hei)
            simp only [Array.getD_eq_getD_getElem?, e2] at this ⊢
            exact this
end
end Go.Pl

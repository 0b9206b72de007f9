/-
  WHOLE FUNCTIONS: what the plain code comes to, the model's call comes to. My own work.
-/
import Derived.Test.YtcmejdkjfekoeaaPlDraw2
import Derived.Test.YtcmejdkjfekoeaaPlRn
import Derived.LoopN
namespace Go.Pl
open Go
set_option linter.unusedVariables false
set_option linter.unusedSimpArgs false

def chkC (P : Program) (n : Nat) : Code → PCode → Bool
  | c, .fz _ p => chkC P n c p
  | c, .rn _ _ p => chkC P n c p
  | c, .skip => match c with | .skip => true | _ => false
  | c, .ops dr l => match c with
    | .region _ ops draw => (dr == draw) && (if draw then chkDraw P n ops l else chkOps P n ops ops.toList l)
    | _ => false
  | c, .seq p q => match c with
    | .seq a b => chkC P n a p && chkC P n b q
    | _ => false
  | c, .cond x p q => match c with
    | .cond y a b => chkPO y x && chkC P n a p && chkC P n b q
    | _ => false
  | c, .block id p => match c with
    | .block id' a => decide (id' = id) && chkC P n a p
    | _ => false
  | c, .loop p => match c with
    | .loop a => chkC P n a p
    | _ => false
  | c, .exit id => match c with
    | .exit id' => decide (id' = id)
    | _ => false
  | c, .ret => match c with | .ret => true | _ => false

def exOf : Ex → Exit
  | .n => .normal
  | .x id => .exit id
  | .r => .ret

section
variable {O A0 : Nat → Prop} {w0 : World} {P : Program} {n : Nat}

theorem Sim.killsAll {β : Bt} {tm : Nat → Value} {w : World} : ∀ (l : List Nat) {s : PS}, Sim O w0 A0 β s tm w → Sim O w0 A0 β (s.kills l) tm w
  | [], s, h => h
  | d :: l, s, h => Sim.killsAll l (h.kill d)

theorem kills_dead : ∀ (l : List Nat) (s : PS) (d : Nat), (d ∈ l ∨ (s.bx d).st = .dead) → ((s.kills l).bx d).st = .dead
  | [], s, d, h => h.resolve_left (by simp)
  | e :: l, s, d, h => by
    refine kills_dead l _ d ?_
    by_cases hde : d = e
    · subst hde; exact .inr (by simp [PS.box])
    · rcases h with h | h
      · rcases List.mem_cons.1 h with rfl | h
        · exact absurd rfl hde
        · exact .inl h
      · exact .inr (by simp only [PS.box, if_neg hde]; exact h)

theorem mem_newSites : ∀ {l : List POp} {p : POp} {d : Nat}, p ∈ l → isNew p.k = true → p.dst = some d → d ∈ newSites l
  | q :: l, p, d, hp, hn, hd => by
    rcases List.mem_cons.1 hp with rfl | hp
    · simp [newSites, hn, hd]
    · have := mem_newSites hp hn hd
      simp only [newSites]
      split
      · exact List.mem_cons_of_mem _ this
      · exact this

def InLoop (P : Program) (c : Code) (Q : Exit → Act → World → Prop) (a : Act) (w : World) : Prop :=
  ∀ (b : Frame) (k : List Item) (cs : List Frame), ∃ e a' w', Q e a' w' ∧ Arrives P (lone (b.at a (.code c :: .inLoop c :: k)) cs w) b k cs e a' w'

theorem inLoop_of {c : Code} {Q : Exit → Act → World → Prop} {a : Act} {w : World} (h : c.wp P (Exit.then (InLoop P c Q) Q) a w) : InLoop P c Q a w := by
  intro b k cs
  obtain ⟨e, a₁, w₁, hq, harr⟩ := h b (.inLoop c :: k) cs
  cases e with
  | normal =>
    obtain ⟨e₂, a₂, w₂, hq₂, harr₂⟩ := hq b k cs
    exact ⟨e₂, a₂, w₂, hq₂, .of_steps (Steps.trans harr (.one step_inLoop)) harr₂⟩
  | exit id => exact ⟨_, a₁, w₁, hq, .pass (x := .inLoop c) rfl (fun _ _ => .inl (by simp)) harr⟩
  | goto l => exact ⟨_, a₁, w₁, hq, .pass (x := .inLoop c) rfl (fun _ _ => .inl (by simp)) harr⟩
  | ret => exact ⟨_, a₁, w₁, hq, .pass (x := .inLoop c) rfl (fun _ _ => .inl (by simp)) harr⟩
  | panic ch => exact ⟨_, a₁, w₁, hq, .pass (x := .inLoop c) rfl (fun _ _ => .inl (by simp)) harr⟩
  | outgrown => exact ⟨_, a₁, w₁, hq, .pass (x := .inLoop c) rfl (fun _ _ => .inl (by simp)) harr⟩

theorem pwp_sound : ∀ (pc : PCode) (c : Code), chkC P n c pc = true → ∀ (K : Ex → PS → Prop) (Q : Exit → Act → World → Prop),
    (∀ e β s a w, Sim O w0 A0 β s (tmf a) w → a.tmps.size = n → a.defers = [] → K e s → Q (exOf e) a w) →
    ∀ β s a w, Sim O w0 A0 β s (tmf a) w → a.tmps.size = n → a.defers = [] → pwp (PCallG P) pc s K → c.wp P Q a w := by
  intro pc
  induction pc with
  | skip =>
    intro c hc K Q hQ β s a w h hn hd hw
    unfold chkC at hc
    split at hc <;> (try (cases hc; done))
    exact wp_skip (hQ .n β s a w h hn hd hw)
  | ops dr l =>
    intro c hc K Q hQ β s a w h hn hd hw
    unfold chkC at hc
    split at hc <;> (try (cases hc; done))
    rename_i id ops draw
    simp only [Bool.and_eq_true, beq_iff_eq] at hc
    obtain ⟨rfl, hc⟩ := hc
    simp only [pwp] at hw
    cases dr with
    | false =>
      simp only [Bool.false_eq_true, if_false] at hc hw
      obtain ⟨hl, _⟩ := chkOps_get hc
      refine wp_region ?_
      have := seq_ops (O := O) (A0 := A0) (w0 := w0) hc (K := K .n) (Q := Q) (fun β s a w h hn hd hK => hQ .n β s a w h hn hd hK) l.length 0 (by simp) β s a w h hn hd (by simpa using hw)
      · rw [← List.range_eq_range'] at this
        have e : ops.size = l.length := by simpa using hl
        rw [e]
        exact this
    | true =>
      simp only [if_true] at hc hw
      have hR := Reg.of_chk hc
      refine wp_region_draw fun t => ?_
      have hk := h.killsAll (newSites l)
      have hdrew : Sim O w0 A0 β (s.kills (newSites l)) (tmf a) { w with drawn := w.drawn + 1 } := hk.grow rfl rfl rfl (Nat.le_refl _) fun _ _ => rfl
      have hleft : left_ ops.size (Array.replicate ops.size false) = List.range ops.size := by
        unfold left_
        refine List.filter_eq_self.2 fun i hi => ?_
        have : i < ops.size := by simpa using hi
        simp [this]
      have hwr : wpR (PCallG P) l (List.range ops.size) (s.kills (newSites l)) (K .n) := by
        rw [hR.len, List.range_eq_range']
        exact wpR_of_wpL l.length 0 (by simp) _ (by simpa using hw)
      have hD : DeadR l (List.range ops.size) (s.kills (newSites l)) := by
        intro i hi hn' d hde
        have hil : i < l.length := by rw [← hR.len]; simpa using hi
        refine kills_dead _ _ _ (.inl (mem_newSites (List.getElem_mem hil) ?_ ?_))
        · have e : l.getD i default = l[i] := by simp [hil]
          rw [e] at hn'; exact hn'
        · have e : l.getD i default = l[i] := by simp [hil]
          rw [e] at hde; exact hde
      have any : ∀ (md : Region.Mode) (ord : List Nat), chkTopo md ops ord [] = true → (∀ e, Region.binds .any e = true → Region.binds md e = true) → ∀ t', wpOps P ops Q (Region.linearise md ops t') a { w with drawn := w.drawn + 1 } := by
        intro md ord htopo hmd t'
        refine wpAny_sound ops.size t' _ a _ ?_
        refine any_order hR md htopo hmd (K := K .n) (fun β s a w h hn hd hK => hQ .n β s a w h hn hd hK) ops.size (Array.replicate ops.size false) (by simp) (by rw [hleft]; simp) (fun j hj => ?_) β _ a _ hdrew hn hd (by rw [hleft]; exact hD) (by rw [hleft]; exact hwr)
        exfalso
        simp only [Array.getD_eq_getD_getElem?, Array.getElem?_replicate] at hj
        split at hj <;> simp at hj
      simp only [chkDraw, Bool.and_eq_true, Bool.or_eq_true] at hc
      obtain ⟨⟨_, h4⟩, h5⟩ := hc
      unfold Region.schedule
      split
      · exact any .any _ h4 (fun _ h => h) t
      · rename_i hm
        simp only [Bool.or_eq_true, Bool.not_eq_true', not_or, Bool.not_eq_false, Bool.not_eq_true] at hm
        rcases h5 with h5 | h5
        · simp [hm.2] at h5
        · split
          · exact any .text _ h5.1 (fun e h => by cases hg : e.ground <;> simp_all [Region.binds]) _
          · exact any .gc _ h5.2 (fun e h => by cases hg : e.ground <;> simp_all [Region.binds]) _
  | seq p q ihp ihq =>
    intro c hc K Q hQ β s a w h hn hd hw
    unfold chkC at hc
    split at hc <;> (try (cases hc; done))
    simp only [Bool.and_eq_true] at hc
    refine wp_seq (ihp _ hc.1 _ _ (fun e β s a w h hn hd hK => ?_) β s a w h hn hd hw)
    cases e with
    | n => exact ihq _ hc.2 K Q hQ β s a w h hn hd hK
    | x id => exact hQ (.x id) β s a w h hn hd hK
    | r => exact hQ .r β s a w h hn hd hK
  | cond x p q ihp ihq =>
    intro c hc K Q hQ β s a w h hn hd hw
    unfold chkC at hc
    split at hc <;> (try (cases hc; done))
    simp only [Bool.and_eq_true] at hc
    obtain ⟨⟨h0, h1⟩, h2⟩ := hc
    have hR := ev_R h h0
    simp only [pwp] at hw
    split at hw
    · rename_i t ht
      rw [ht] at hR
      refine wp_cond_split (V.bool_inv hR) (fun e => ?_) fun e => ?_
      · exact ihp _ h1 K Q hQ β s a w h hn hd (hw.1 e)
      · exact ihq _ h2 K Q hQ β s a w h hn hd (hw.2 e)
    · exact hw.elim
  | block id p ih =>
    intro c hc K Q hQ β s a w h hn hd hw
    unfold chkC at hc
    split at hc <;> (try (cases hc; done))
    simp only [Bool.and_eq_true, decide_eq_true_eq] at hc
    obtain ⟨rfl, h1⟩ := hc
    refine wp_block (ih _ h1 _ _ (fun e β s a w h hn hd hK => ?_) β s a w h hn hd hw)
    cases e with
    | n => exact hQ .n β s a w h hn hd hK
    | x j =>
      simp only [Ex.blk] at hK
      simp only [exOf, Exit.inBlock]
      split at hK
      · rename_i hj; rw [if_pos hj]; exact hQ .n β s a w h hn hd hK
      · rename_i hj; rw [if_neg hj]; exact hQ (.x j) β s a w h hn hd hK
    | r => exact hQ .r β s a w h hn hd hK
  | loop p ih =>
    intro c hc K Q hQ β s a w h hn hd hw
    unfold chkC at hc
    split at hc <;> (try (cases hc; done))
    rename_i body
    have := hw (fun s => ∀ β a w, Sim O w0 A0 β s (tmf a) w → a.tmps.size = n → a.defers = [] → InLoop P body Q a w) (fun s hs β a w h hn hd => by
      refine inLoop_of (ih body hc _ _ (fun e β s a w h hn hd hK => ?_) β s a w h hn hd hs)
      cases e with
      | n => exact hK β a w h hn hd
      | x j => exact hQ (.x j) β s a w h hn hd hK
      | r => exact hQ .r β s a w h hn hd hK)
    intro b k cs
    obtain ⟨e, a', w', hq, harr⟩ := this β a w h hn hd b k cs
    exact ⟨e, a', w', hq, .of_steps (.one step_loop) harr⟩
  | exit id =>
    intro c hc K Q hQ β s a w h hn hd hw
    unfold chkC at hc
    split at hc <;> (try (cases hc; done))
    obtain rfl := of_decide_eq_true hc
    exact wp_exit (hQ (.x _) β s a w h hn hd hw)
  | ret =>
    intro c hc K Q hQ β s a w h hn hd hw
    unfold chkC at hc
    split at hc <;> (try (cases hc; done))
    exact wp_ret (hQ .r β s a w h hn hd hw)
  | fz i p ih =>
    intro c hc K Q hQ β s a w h hn hd hw
    unfold chkC at hc
    simp only [pwp] at hw
    split at hw
    · rename_i d ver off len hi
      split at hw
      · rename_i v hv
        exact ih c hc K Q hQ β _ a w (h.fz hi hv) hn hd hw
      · exact hw.elim
    · exact ih c hc K Q hQ β s a w h hn hd hw
    · exact hw.elim
  | rn i e p ih =>
    intro c hc K Q hQ β s a w h hn hd hw
    unfold chkC at hc
    simp only [pwp] at hw
    split at hw
    · rename_i d ver off len hi
      by_cases hde : d = e
      · exact ih c hc K Q hQ β s a w h hn hd (hw.1 hde)
      · have h2 := hw.2 hde
        split at h2
        · rename_i v sz es hb
          obtain ⟨⟨rfl, rfl, hl⟩, h2⟩ := h2
          exact ih c hc K Q hQ _ _ a w (h.rn hi hb hde hl) hn hd h2
        · exact h2.elim
    · exact hw.elim
end
end Go.Pl

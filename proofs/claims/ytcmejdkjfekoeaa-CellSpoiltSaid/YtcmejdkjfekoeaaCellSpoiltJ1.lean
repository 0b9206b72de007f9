/- Part of the proof of CellSpoilt: lemmas. -/
import Derived.Test.YtcmejdkjfekoeaaCSpoilS5
set_option linter.unusedVariables false
set_option linter.unusedSimpArgs false
/-
  THE WALK OF A PLAIN CODE: variables in whose cells references may lie. My own work.
-/
namespace Go.Pl
set_option linter.unusedSimpArgs false
section
variable {C : CallP} {l : List POp} {s : PS} {K : PS → Prop} {d : Nat} {x y z : PO} {k : IntKind} {a b n m : Int}
theorem fad_vp {o e w i j : Nat} {ps : List PV} (hx : s.ev x = .ptr e w i) (hb : s.bx e = ⟨w, .vp ps⟩) (hj : i + o = j) (h : wL C l (s.put d (.ptr e w j)) K) : wL C (⟨some d, .fad o x, none⟩ :: l) s K := by
  subst hj; simp only [wL] at h; simp only [wL, wpL, wpG, wpK, pstep, hx, hb, if_true, PS.putO]; exact h
theorem iaA_vp {len sz e w o j : Nat} {ps : List PV} (hx : s.ev x = .ptr e w o) (hy : s.ev y = .c (.int k n)) (hb : s.bx e = ⟨w, .vp ps⟩) (hn : 0 ≤ n ∧ n < (len : Int)) (hj : o + n.toNat * sz = j)
    (h : wL C l (s.put d (.ptr e w j)) K) : wL C (⟨some d, .iaA len sz x y, none⟩ :: l) s K := by
  subst hj; simp only [wL] at h; simp only [wL, wpL, wpG, wpK, pstep, PS.evc, hx, hy, hb, if_pos hn, if_true, PS.putO]; exact h
theorem load_vp {n e w o : Nat} {ps : List PV} {v : PV} {av : List Nat} (hx : s.ev x = .ptr e w o) (ha : e ∉ av) (hb : s.bx e = ⟨w, .vp ps⟩) (hn : o + n ≤ ps.length)
    (hv : (ps.drop o).headD .junk = v) (h : wL C l (s.put d v) K) : wL C (⟨some d, .load false n x av, none⟩ :: l) s K := by
  subst hv; simp only [wL] at h; simp only [wL, wpL, wpG, wpK, pstep, hx, hb, if_neg ha, if_pos hn, true_and, PS.putO, loadP, Bool.false_eq_true, if_false]; exact h
theorem store_vo {e w o g u i j : Nat} {cs : List CV} {new : List PV} {av : List Nat} (hx : s.ev x = .ptr e w o) (hy : s.ev y = .osl g u i j) (ha : e ∉ av) (hb : s.bx e = ⟨w, .var cs⟩)
    (hn : o + 1 ≤ cs.length) (hv : splP (cs.map .c) o [.osl g u i j] = new) (h : wL C l (s.box e ⟨w, .vp new⟩) K) : wL C (⟨none, .store 1 x y av, none⟩ :: l) s K := by
  subst hv; simp only [wL] at h; simp only [wL, wpL, wpG, wpK, pstep, PS.evc, hx, hy, hb, if_neg ha, PV.refr, true_and, and_self, if_true, if_pos hn]; exact h
end
section
variable {C : CallP} {s : PS} {K : Ex → PS → Prop} {p q : PCode}
theorem w_fzc {i k d w o e u n sz : Nat} {ps new : List PV} {es : List (List CV)} (hx : s.t i = .ptr d w o) (hb : s.bx d = ⟨w, .vp ps⟩) (hk : ps[k]? = some (.osl e u 0 n)) (hed : e ≠ d) (he : s.bx e = ⟨u, .sl sz es⟩) (hn : n = es.length)
    (hv : ps.set k (.c (.sl es)) = new) (h : ∀ q, wP C p ((s.box e ⟨q, .dead⟩).box d ⟨w, .vp new⟩) K) : wP C (.fzc i k p) s K := by
  subst hv; simp only [wP] at h; simp only [wP, pwp, hx, hb, true_and, hk, PS.close, he, if_pos hn]; exact ⟨hed, h _⟩
theorem w_fzc_v {i k d w o : Nat} {cs : List CV} (hx : s.t i = .ptr d w o) (hb : s.bx d = ⟨w, .var cs⟩) (h : wP C p s K) : wP C (.fzc i k p) s K := by
  simp only [wP] at h; simp only [wP, pwp, hx, hb, true_and]; exact h
theorem w_nvp {i d w o : Nat} {ps : List PV} {cs : List CV} (hx : s.t i = .ptr d w o) (hb : s.bx d = ⟨w, .vp ps⟩) (hc : closed? ps = some cs) (h : wP C p (s.box d ⟨w, .var cs⟩) K) : wP C (.nvp i p) s K := by
  simp only [wP] at h; simp only [wP, pwp, hx, hb, true_and, hc]; exact h
theorem w_nvp_v {i d w o : Nat} {cs : List CV} (hx : s.t i = .ptr d w o) (hb : s.bx d = ⟨w, .var cs⟩) (h : wP C p s K) : wP C (.nvp i p) s K := by
  simp only [wP] at h; simp only [wP, pwp, hx, hb, true_and]; exact h
end
end Go.Pl

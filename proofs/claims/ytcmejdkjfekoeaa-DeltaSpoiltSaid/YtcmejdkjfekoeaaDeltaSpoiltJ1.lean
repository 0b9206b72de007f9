/- Part of the proof of DeltaSpoilt: lemmas. -/
import Derived.Test.YtcmejdkjfekoeaaDeltaS5
import Derived.Test.YtcmejdkjfekoeaaDeltaS6
import Derived.Test.YtcmejdkjfekoeaaDeltaS7
import Derived.Test.YtcmejdkjfekoeaaDeltaS9
import Derived.Test.YtcmejdkjfekoeaaDeltaS10
import Derived.Test.YtcmejdkjfekoeaaDeltaS12
import Derived.Test.YtcmejdkjfekoeaaProg
import Derived.KernelRfl
set_option linter.unusedVariables false
set_option linter.unusedSimpArgs false
namespace Go.Proofs.Ytcmejdkjfekoeaa
open Go.Pl
/- cuboid/cuboidlaw10.DeltaSpoilt -/
def r19_0 : List POp := [⟨some 4, .box 7 (.t 1), none⟩,⟨some 5, .box 2 (.t 2), none⟩,⟨some 6, .mv (.k (.bool false)), none⟩]
def r19_1 : List POp := [⟨some 16, .mv (.t 0), none⟩,⟨some 17, .call false 80 [(.t 16)], none⟩,⟨some 7, .mv (.t 17), none⟩]
def r19_2 : List POp := [⟨some 18, .load true 7 (.t 4) [], none⟩,⟨some 19, .call false 57 [(.t 18)], none⟩,⟨some 20, .un .not (.t 19), none⟩,⟨some 21, .mv (.t 20), none⟩,⟨some 22, .mv (.t 7), (some (21, false))⟩,⟨some 23, .load true 7 (.t 4) [], (some (21, false))⟩,⟨some 24, .call false 66 [(.t 22), (.t 23)], (some (21, false))⟩,⟨some 25, .un .not (.t 24), (some (21, false))⟩,⟨some 26, .pick (.t 21) (.k (.bool true)) (.t 25), none⟩]
def r19_3 : List POp := [⟨some 27, .call false 58 [], none⟩,⟨some 6, .mv (.t 27), none⟩]
def r19_4 : List POp := [⟨some 28, .load true 7 (.t 4) [], none⟩,⟨some 8, .alloc [.int .i64 0, .int .i64 0, .int .i64 0, .sl [], .sl [], .sl [], .sl []], none⟩,⟨none, .store 7 (.t 8) (.t 28) [], none⟩]
def r19_5 : List POp := [⟨some 29, .fad 0 (.t 5), none⟩,⟨some 30, .load false 1 (.t 29) [], none⟩,⟨some 31, .bin .rem (.t 30) (.k (.int .u8 5)), none⟩]
def r19_7 : List POp := [⟨some 48, .bin .eql (.t 31) (.k (.int .u8 0)), none⟩,⟨some 47, .mv (.t 48), none⟩]
def r19_8 : List POp := [⟨some 49, .fad 0 (.t 8), none⟩,⟨some 50, .load false 1 (.t 49) [], none⟩,⟨some 51, .bin .add (.t 50) (.k (.int .i64 1)), none⟩,⟨some 52, .fad 0 (.t 8), none⟩,⟨none, .store 1 (.t 52) (.t 51) [], none⟩]
def r19_9 : List POp := [⟨some 54, .bin .eql (.t 31) (.k (.int .u8 1)), none⟩,⟨some 53, .mv (.t 54), none⟩]
def r19_10 : List POp := [⟨some 55, .fad 1 (.t 8), none⟩,⟨some 56, .iaA 2 1 (.t 55) (.k (.int .i64 0)), none⟩,⟨some 57, .load false 1 (.t 56) [], none⟩,⟨some 58, .fad 1 (.t 5), none⟩,⟨some 59, .load false 1 (.t 58) [], none⟩,⟨some 60, .bin .or (.t 59) (.k (.int .i64 1)), none⟩,⟨some 61, .bin .xor (.t 57) (.t 60), none⟩,⟨some 62, .fad 1 (.t 8), none⟩,⟨some 63, .iaA 2 1 (.t 62) (.k (.int .i64 0)), none⟩,⟨none, .store 1 (.t 63) (.t 61) [], none⟩]
def r19_11 : List POp := [⟨some 65, .bin .eql (.t 31) (.k (.int .u8 2)), none⟩,⟨some 64, .mv (.t 65), none⟩]
def r19_12 : List POp := [⟨some 66, .fad 3 (.t 4), none⟩,⟨some 67, .iaA 2 1 (.t 66) (.k (.int .i64 0)), none⟩,⟨some 68, .load false 1 (.t 67) [], none⟩,⟨some 69, .fad 1 (.t 5), none⟩,⟨some 70, .load false 1 (.t 69) [], none⟩,⟨some 71, .call false 81 [(.t 68), (.t 70), (.k (.int .i64 1))], none⟩,⟨some 72, .fad 5 (.t 4), none⟩,⟨some 73, .iaA 2 1 (.t 72) (.k (.int .i64 0)), none⟩,⟨some 74, .load false 1 (.t 73) [], none⟩,⟨some 75, .fad 1 (.t 5), none⟩,⟨some 76, .load false 1 (.t 75) [], none⟩,⟨some 77, .call false 81 [(.t 74), (.t 76), (.k (.int .i64 1))], none⟩,⟨some 78, .fad 3 (.t 8), none⟩,⟨some 79, .iaA 2 1 (.t 78) (.k (.int .i64 0)), none⟩,⟨none, .store 1 (.t 79) (.t 71) [], none⟩,⟨some 80, .fad 5 (.t 8), none⟩,⟨some 81, .iaA 2 1 (.t 80) (.k (.int .i64 0)), none⟩,⟨none, .store 1 (.t 81) (.t 77) [], none⟩]
def r19_13 : List POp := [⟨some 83, .bin .eql (.t 31) (.k (.int .u8 3)), none⟩,⟨some 82, .mv (.t 83), none⟩]
def r19_14 : List POp := [⟨some 84, .bsl 2 0 [.int .i64 0, .int .i64 0] [] true, none⟩,⟨some 85, .fad 5 (.t 4), none⟩,⟨some 86, .iaA 2 1 (.t 85) (.k (.int .i64 0)), none⟩,⟨some 87, .load false 1 (.t 86) [84], none⟩,⟨some 88, .app 2 (.t 84) (.t 87) true, none⟩,⟨some 89, .fad 1 (.t 5), none⟩,⟨some 90, .load false 1 (.t 89) [84, 88], none⟩,⟨some 91, .build [.int .i64 0, .int .i64 0] [(0, 1, (.t 90))], none⟩,⟨some 92, .bsl 2 1 [.int .i64 0, .int .i64 0] [(0, (.t 91))] false, none⟩,⟨some 93, .app 2 (.t 88) (.t 92) false, none⟩,⟨some 94, .fad 5 (.t 8), none⟩,⟨some 95, .iaA 2 1 (.t 94) (.k (.int .i64 0)), none⟩,⟨none, .store 1 (.t 95) (.t 93) [], none⟩]
def r19_6 : List POp := [⟨some 32, .bsl 2 0 [.int .i64 0, .int .i64 0] [] true, none⟩,⟨some 33, .fad 3 (.t 4), none⟩,⟨some 34, .iaA 2 1 (.t 33) (.k (.int .i64 1)), none⟩,⟨some 35, .load false 1 (.t 34) [32], none⟩,⟨some 36, .app 2 (.t 32) (.t 35) true, none⟩,⟨some 37, .fad 1 (.t 5), none⟩,⟨some 38, .load false 1 (.t 37) [32, 36], none⟩,⟨some 39, .build [.int .i64 0, .int .i64 0] [(0, 1, (.t 38)), (1, 1, (.k (.int .i64 1)))], none⟩,⟨some 40, .fad 1 (.t 5), none⟩,⟨some 41, .load false 1 (.t 40) [32, 36], none⟩,⟨some 42, .build [.int .i64 0, .int .i64 0] [(0, 1, (.t 41)), (1, 1, (.k (.int .i64 1)))], none⟩,⟨some 43, .bsl 2 2 [.int .i64 0, .int .i64 0] [(0, (.t 39)), (1, (.t 42))] false, none⟩,⟨some 44, .app 2 (.t 36) (.t 43) false, none⟩,⟨some 45, .fad 3 (.t 8), none⟩,⟨some 46, .iaA 2 1 (.t 45) (.k (.int .i64 1)), none⟩,⟨none, .store 1 (.t 46) (.t 44) [], none⟩]
def r19_15 : List POp := [⟨some 97, .mv (.t 7), none⟩,⟨some 98, .load true 7 (.t 4) [], none⟩,⟨some 99, .load true 7 (.t 8) [], none⟩,⟨some 100, .call false 69 [(.t 97), (.t 98), (.t 99)], none⟩,⟨some 96, .mv (.t 100), none⟩,⟨some 101, .ext (.t 96) 0, none⟩,⟨some 102, .ext (.t 96) 1, none⟩,⟨some 9, .alloc [.int .i64 0, .int .i64 0, .int .i64 0, .sl [], .sl [], .sl [], .sl []], none⟩,⟨none, .store 7 (.t 9) (.t 101) [], none⟩,⟨some 10, .mv (.t 102), none⟩]
def r19_16 : List POp := [⟨some 104, .mv (.t 7), none⟩,⟨some 105, .load true 7 (.t 8) [], none⟩,⟨some 106, .call false 63 [(.t 104), (.t 105)], none⟩,⟨some 103, .mv (.t 106), none⟩,⟨some 107, .ext (.t 103) 0, none⟩,⟨some 108, .ext (.t 103) 1, none⟩,⟨some 11, .alloc [.int .i64 0, .int .i64 0, .int .i64 0, .sl [], .sl [], .sl [], .sl []], none⟩,⟨none, .store 7 (.t 11) (.t 107) [], none⟩,⟨some 12, .mv (.t 108), none⟩]
def r19_17 : List POp := [⟨some 110, .mv (.t 7), none⟩,⟨some 111, .build [.int .i64 0, .int .i64 0, .int .i64 0, .sl [], .sl []] [], none⟩,⟨some 112, .load true 7 (.t 8) [], none⟩,⟨some 113, .call false 74 [(.t 110), (.t 111), (.k (.bool false)), (.t 112)], none⟩,⟨some 109, .mv (.t 113), none⟩,⟨some 114, .ext (.t 109) 0, none⟩,⟨some 115, .ext (.t 109) 1, none⟩,⟨some 116, .ext (.t 109) 2, none⟩,⟨some 13, .alloc [.int .i64 0, .int .i64 0, .int .i64 0, .sl [], .sl []], none⟩,⟨none, .store 5 (.t 13) (.t 114) [], none⟩,⟨some 14, .mv (.t 115), none⟩,⟨some 15, .mv (.t 116), none⟩]
def r19_18 : List POp := [⟨some 117, .mv (.t 7), none⟩,⟨some 118, .load true 7 (.t 4) [], none⟩,⟨some 119, .call false 65 [(.t 117), (.t 118)], none⟩,⟨some 120, .mv (.t 119), none⟩,⟨some 121, .mv (.t 7), (some (120, true))⟩,⟨some 122, .load true 7 (.t 8) [], (some (120, true))⟩,⟨some 123, .call false 65 [(.t 121), (.t 122)], (some (120, true))⟩,⟨some 124, .un .not (.t 123), (some (120, true))⟩,⟨some 125, .pick (.t 120) (.t 124) (.k (.bool false)), none⟩,⟨some 126, .mv (.t 125), none⟩,⟨some 127, .mv (.t 7), (some (126, true))⟩,⟨some 128, .load true 7 (.t 8) [], (some (126, true))⟩,⟨some 129, .call false 67 [(.t 127), (.t 128)], (some (126, true))⟩,⟨some 130, .un .not (.t 129), (some (126, true))⟩,⟨some 131, .pick (.t 126) (.t 130) (.k (.bool false)), none⟩,⟨some 132, .mv (.t 131), none⟩,⟨some 133, .load true 7 (.t 4) [], (some (132, true))⟩,⟨some 134, .load true 7 (.t 8) [], (some (132, true))⟩,⟨some 135, .call false 71 [(.t 133), (.t 134)], (some (132, true))⟩,⟨some 136, .un .not (.t 135), (some (132, true))⟩,⟨some 137, .pick (.t 132) (.t 136) (.k (.bool false)), none⟩,⟨some 138, .mv (.t 137), none⟩,⟨some 139, .mv (.t 10), (some (138, true))⟩,⟨some 140, .un .not (.t 139), (some (138, true))⟩,⟨some 141, .pick (.t 138) (.t 140) (.k (.bool false)), none⟩,⟨some 142, .mv (.t 141), none⟩,⟨some 143, .mv (.t 12), (some (142, true))⟩,⟨some 144, .un .not (.t 143), (some (142, true))⟩,⟨some 145, .pick (.t 142) (.t 144) (.k (.bool false)), none⟩,⟨some 146, .mv (.t 145), none⟩,⟨some 147, .mv (.t 15), (some (146, true))⟩,⟨some 148, .un .not (.t 147), (some (146, true))⟩,⟨some 149, .pick (.t 146) (.t 148) (.k (.bool false)), none⟩,⟨some 150, .mv (.t 149), none⟩,⟨some 151, .load true 7 (.t 4) [], (some (150, true))⟩,⟨some 152, .call false 65 [(.k (.int .i64 0)), (.t 151)], (some (150, true))⟩,⟨some 153, .un .not (.t 152), (some (150, true))⟩,⟨some 154, .pick (.t 150) (.t 153) (.k (.bool false)), none⟩,⟨some 155, .mv (.t 154), none⟩,⟨some 156, .load true 7 (.t 4) [], (some (155, true))⟩,⟨some 157, .call false 65 [(.k (.int .i64 3)), (.t 156)], (some (155, true))⟩,⟨some 158, .un .not (.t 157), (some (155, true))⟩,⟨some 159, .pick (.t 155) (.t 158) (.k (.bool false)), none⟩,⟨some 160, .mv (.t 159), none⟩,⟨some 161, .call false 58 [], (some (160, true))⟩,⟨some 162, .pick (.t 160) (.t 161) (.k (.bool false)), none⟩,⟨some 6, .mv (.t 162), none⟩]
def p19 : PCode := (.seq (.ops false r19_0) (.seq (.ops false r19_1) (.seq (.seq (.ops false r19_2) (.cond (.t 26) (.seq (.ops false r19_3) .ret) .skip)) (.seq (.ops false r19_4) (.seq (.seq (.ops false r19_5) (.block 0 (.seq (.ops false r19_7) (.cond (.t 47) (.ops false r19_8) (.seq (.ops false r19_9) (.cond (.t 53) (.ops false r19_10) (.seq (.ops false r19_11) (.cond (.t 64) (.ops true r19_12) (.seq (.ops false r19_13) (.cond (.t 82) (.opsB r19_14 [(4, 84), (5, 5), (6, 5), (9, 88), (10, 8)]) (.opsB r19_6 [(4, 32), (5, 5), (6, 5), (8, 5), (9, 5), (12, 36), (13, 8)]))))))))))) (.seq (.ops false r19_15) (.seq (.ops false r19_16) (.seq (.ops false r19_17) (.seq (.ops false r19_18) .ret)))))))))
def rs19 : List RS := [.t 6]
theorem c19 : chkF Try.prog Try.f19 3 p19 rs19 = true := by kernel_rfl
end Go.Proofs.Ytcmejdkjfekoeaa
/-
  A SPOILT DELTA, PLAIN: it may not be; it is joined to nothing, has no other way round, turns no cell. My own work.
-/
namespace Go.Bag
open Go.Pl
def spoilD (how : Nat) (x by_ : Int) (d : Delta) : Delta :=
  match how with
  | 0 => { d with n := d.n + 1 }
  | 1 => { d with s0 := x }
  | 2 => { d with i0 := lay d.i0 by_ 1, o0 := lay d.o0 by_ 1 }
  | 3 => { d with o0 := d.o0 ++ [(by_, 0)] }
  | _ => { d with i1 := d.i1 ++ [(by_, 1), (by_, 1)] }
theorem cnt_lay1 {l : List Run} (h : good l = true) (v : Int) : 1 ≤ cnt (lay l v 1) v := by
  have := (lay_facts l v 1).1 v
  have := cnt_good h v
  simp at *; omega
theorem inB_lay1 {k : Nat} {l : List Run} {v : Int} (g : good l = true) (h : inB k l) (hv : in64 v) : inB (k + 1) (lay l v 1) := by
  obtain ⟨ga, gp, gs⟩ := good_iff.mp g
  have h0 := cnt_nonneg v gp
  obtain ⟨la, lp⟩ := lay_pos (v := v) (n := 1) ga gp (by decide) (by omega)
  obtain ⟨f1, f2, f3, f4, f5⟩ := lay_facts l v 1
  refine ⟨fun q hq => ?_, by have := h.2; omega⟩
  obtain ⟨p1, p2⟩ := le_sum lp q hq
  refine ⟨?_, by simp only [cap] at gs; omega⟩
  have hc : cnt (lay l v 1) q.1 ≠ 0 := by have := cnt_pos lp hq; omega
  rw [f1] at hc
  by_cases e : v = q.1
  · rw [← e]; exact hv
  · simp only [if_neg e, Int.add_zero] at hc
    obtain ⟨r, hr, he⟩ := mem_of_cnt hc
    rw [← he]; exact (h.1 r hr).1
theorem spoil_in {k : Nat} {how : Nat} {x by_ : Int} {d : Delta} {m : Int} (g : goodD m d = true) (h : inD k d) (hx : in64 x) (hb : in64 by_) : inD (k + 2) (spoilD how x by_ d) := by
  obtain ⟨h1, h2, h3, h4, h5, h6, h7⟩ := h
  obtain ⟨g1, g2, g3, g4⟩ := goodD_iff.mp g
  obtain ⟨q1, q2, q3, q4, q5⟩ := mD_iff.mp g3
  have hw : ∀ {b}, inB k b → inB (k + 2) b := fun h => inB_mono h (by omega)
  have app : ∀ {b : List Run} {l : List Run}, inB k b → ranged l → l.length ≤ 2 → inB (k + 2) (b ++ l) := fun hb hl hn => ⟨fun q hq => by
    rcases List.mem_append.mp hq with hq | hq
    · exact hb.1 q hq
    · exact hl q hq, by have := hb.2; simp; omega⟩
  unfold spoilD
  split
  · exact ⟨by show in64 (d.n + 1); unfold in64; omega, h2, h3, hw h4, hw h5, hw h6, hw h7⟩
  · exact ⟨h1, hx, h3, hw h4, hw h5, hw h6, hw h7⟩
  · exact ⟨h1, h2, h3, inB_mono (inB_lay1 q1 h4 hb) (by omega), hw h5, inB_mono (inB_lay1 q2 h6 hb) (by omega), hw h7⟩
  · exact ⟨h1, h2, h3, hw h4, hw h5, app h6 (fun q hq => by obtain rfl := List.mem_singleton.mp hq; exact ⟨hb, by simp⟩) (by simp), hw h7⟩
  · exact ⟨h1, h2, h3, hw h4, app h5 (fun q hq => by
      have : q = (by_, 1) := by simpa using hq
      subst this; exact ⟨hb, by simp⟩) (by simp), hw h6, hw h7⟩
theorem spoil_bad {how : Nat} {x by_ : Int} {d : Delta} {m : Int} (g : goodD m d = true) (hx : x ≠ d.s0) : goodD m (spoilD how x by_ d) = false := by
  obtain ⟨g1, g2, g3, g4⟩ := goodD_iff.mp g
  obtain ⟨q1, q2, q3, q4, q5⟩ := mD_iff.mp g3
  refine Bool.eq_false_iff.mpr fun hg => ?_
  obtain ⟨k1, k2, k3, k4⟩ := goodD_iff.mp hg
  obtain ⟨p1, p2, p3, p4, p5⟩ := mD_iff.mp k3
  unfold spoilD at *
  split at p1
  · simp only at p4; omega
  · simp only at p5; omega
  · simp only at p1 p2 p3
    rcases (apartL_iff p1 p2).mp p3 by_ with h | h
    · have := cnt_lay1 q1 by_; omega
    · have := cnt_lay1 q2 by_; omega
  · simp only at p2
    have := (good_iff.mp p2).2.1 (by_, 0) (by simp)
    simp at this
  · simp only at k4
    split at k4
    · have ha := (good_iff.mp (mD_iff.mp k4).1).1
      unfold asc at ha
      have := (List.pairwise_append.mp ha).2.1
      simp at this
    · have := k4.2.1
      simp at this
theorem spoil_facts {how : Nat} {x by_ : Int} {d : Delta} {m : Int} (g : goodD m d = true) (hx : x ≠ d.s0) :
    goodD m (spoilD how x by_ d) = false ∧ idleD m (spoilD how x by_ d) = false ∧ decide (d = spoilD how x by_ d) = false ∧ joinD m d (spoilD how x by_ d) = (zeroD, false) ∧ negD m (spoilD how x by_ d) = (zeroD, false) ∧
    applyD m zeroC false (spoilD how x by_ d) = (zeroC, false, false) ∧ goodD 0 d = false ∧ goodD 3 d = false := by
  have hb := spoil_bad (how := how) (by_ := by_) g hx
  generalize spoilD how x by_ d = y at *
  refine ⟨hb, by simp [idleD, hb], decide_eq_false fun e => ?_, ?_, ?_, ?_, ?_, ?_⟩
  · rw [← e, g] at hb; cases hb
  · unfold joinD; rw [if_neg]; rintro ⟨_, h, _⟩; rw [hb] at h; cases h
  · unfold negD; rw [if_neg]; rw [hb]; simp
  · unfold applyD; rw [if_neg]; rintro ⟨h, _⟩; rw [hb] at h; cases h
  · refine Bool.eq_false_iff.mpr fun h => ?_
    have := (goodD_iff.mp h).1; omega
  · refine Bool.eq_false_iff.mpr fun h => ?_
    have := (goodD_iff.mp h).1; omega
theorem wrap64_eq (n : Int) : IntKind.i64.wrap n = (n + 9223372036854775808) % 18446744073709551616 - 9223372036854775808 := by
  simp [IntKind.wrap, IntKind.bits, IntKind.signed]
  omega
theorem wrap64_in64 (n : Int) : in64 (IntKind.i64.wrap n) := by rw [wrap64_eq]; unfold in64; omega
theorem ofInt_wrap (n : Int) : BitVec.ofInt 64 (IntKind.i64.wrap n) = BitVec.ofInt 64 n := by
  apply BitVec.eq_of_toNat_eq
  simp only [BitVec.toNat_ofInt]
  rw [wrap64_eq]
  congr 1
  omega
theorem ofInt_toNat (x : BitVec 64) : BitVec.ofInt 64 (x.toNat : Int) = x := by
  apply BitVec.eq_of_toNat_eq
  have := x.isLt
  simp only [BitVec.toNat_ofInt]
  omega
def xorI (a b : Int) : Int := IntKind.i64.wrap ((BitVec.ofInt 64 a ^^^ BitVec.ofInt 64 (IntKind.i64.wrap ((BitVec.ofInt 64 b ||| BitVec.ofInt 64 1).toNat : Int))).toNat : Int)
theorem xor_odd (a b : Int) : xorI a b ≠ a := by
  intro h
  unfold xorI at h
  have h := congrArg (BitVec.ofInt 64) h
  rw [ofInt_wrap, ofInt_wrap, ofInt_toNat, ofInt_toNat] at h
  have h := congrArg (fun x : BitVec 64 => x.getLsbD 0) h
  have h1 : (BitVec.ofInt 64 1).getLsbD 0 = true := by decide
  simp only [BitVec.getLsbD_xor, BitVec.getLsbD_or, h1, Bool.or_true] at h
  cases hb : (BitVec.ofInt 64 a).getLsbD 0 <;> rw [hb] at h <;> cases h
end Go.Bag
namespace Go.Proofs.Ytcmejdkjfekoeaa
open Go.Pl Go.Bag
set_option maxHeartbeats 32000000
set_option maxRecDepth 100000
def orI (b : Int) : Int := IntKind.i64.wrap ((BitVec.ofInt 64 b ||| BitVec.ofInt 64 1).toNat : Int)
theorem or_1 (b : Int) : binC .or (.int .i64 b) (.int .i64 1) = some (.int .i64 (orI b)) := rfl
theorem xor_1 (a b : Int) : binC .xor (.int .i64 a) (.int .i64 (orI b)) = some (.int .i64 (xorI a b)) := rfl
theorem rem_5 {a k : Int} (h0 : 0 ≤ a) (h : a % 5 = k) : binC .rem (.int .u8 a) (.int .u8 5) = some (.int .u8 k) := by
  simp only [binC]
  rw [if_pos ⟨trivial, by decide⟩, Int.tmod_eq_emod_of_nonneg h0, h]
def q19 : PCode := match p19 with
  | .seq _ (.seq _ (.seq _ (.seq _ (.seq _ r)))) => r
  | _ => .skip
def RSp (d y : Delta) (m : Int) (s' : PS) : Prop := ∃ v4 v8 : Nat, s'.t 4 = .ptr 4 v4 0 ∧ s'.bx 4 = ⟨v4, .var (encD d)⟩ ∧ s'.t 8 = .ptr 8 v8 0 ∧ s'.bx 8 = ⟨v8, .var (encD y)⟩ ∧ s'.t 7 = .c (.int .i64 m)
theorem sp_tail (d y : Delta) (m : Int) (iD : inD 60 d) (iy : inD 62 y) (g : goodD m d = true)
    (hf : goodD m y = false ∧ idleD m y = false ∧ decide (d = y) = false ∧ joinD m d y = (zeroD, false) ∧ negD m y = (zeroD, false) ∧ applyD m zeroC false y = (zeroC, false, false) ∧ goodD 0 d = false ∧ goodD 3 d = false) (s' : PS) (h : RSp d y m s') :
    wP (PCallG Try.prog) q19 s' (FinK rs19 (.c (.bool true))) := by
  obtain ⟨f1, f2, f3, f4, f5, f6, f7, f8⟩ := hf
  obtain ⟨v4, v8, t4, b4, t8, b8, t7⟩ := h
  have cw := C_wakes10
  have c1 := C_dJoin m d y (inD_to iD (by omega)) (inD_to iy (by omega))
  have c2 := C_dNeg m y (inD_to iy (by omega))
  have c3 := C_dApply m zeroC false y (inC_zero _) (inD_to iy (by omega))
  have c4 := C_dGood m d (inD_to iD (by omega))
  have c5 := C_dGood m y (inD_to iy (by omega))
  have c6 := C_dIdle m y (inD_to iy (by omega))
  have c7 := C_dSame d y (inD_len iD (by omega)) (inD_len iy (by omega))
  have c8 := C_dGood 0 d (inD_to iD (by omega))
  have c9 := C_dGood 3 d (inD_to iD (by omega))
  rw [f4] at c1; rw [f5] at c2; rw [f6] at c3; rw [g] at c4; rw [f1] at c5; rw [f2] at c6; rw [f3] at c7; rw [f7] at c8; rw [f8] at c9
  rw [← put_same t4, ← box_same b4, ← put_same t8, ← box_same b8, ← put_same t7]
  unfold q19
  unfold p19 r19_0 r19_1 r19_2 r19_3 r19_4 r19_5 r19_6 r19_7 r19_8 r19_9 r19_10 r19_11 r19_12 r19_13 r19_14 r19_15 r19_16 r19_17 r19_18
  dsimp only
  repeat' (first | refine call3 rfl rfl rfl c1 ?_ | refine call2 rfl rfl c2 ?_ | refine call4 rfl rfl rfl rfl c3 ?_ | refine call2 rfl rfl c4 ?_ | refine call2 rfl rfl c5 ?_ | refine call2 rfl rfl c6 ?_ | refine call2 rfl rfl c7 ?_ | refine call2 rfl rfl c8 ?_ | refine call2 rfl rfl c9 ?_ | refine call0 cw ?_ | refine w_seq ?_ | refine w_ops ?_ | refine st_nil ?_ | refine th_n ?_ | refine w_ret ?_ | refine g_yes rfl ?_ | refine mv_c rfl ?_ | refine pick_t rfl rfl ?_ | refine not_ rfl ?_ | refine alloc_ (fun u => ?_) | refine build_ rfl rfl ?_ | refine load_ptr rfl (by decide) rfl (Nat.le_of_ble_eq_true rfl) rfl ?_ | refine store_ptr rfl rfl (by decide) rfl rfl (Nat.le_of_ble_eq_true rfl) rfl ?_ | refine ext_ rfl rfl ?_)
  exact fin_r rfl rfl
theorem C_DeltaSpoilt (two : Bool) (d : Delta) (how by_ : Int) (hd : inD 9223372036854775807 d) (hh : 0 ≤ how ∧ how ≤ 255) (hb : in64 by_) :
    PCallG Try.prog 19 [.c (.bool two), .c (.agg (encD d)), .c (.agg [.int .u8 how, .int .i64 by_])] (.c (.bool true)) [] := by
  have cw := C_wakes10
  have l1 := C_LightDelta d hd.2.2.2.1.2 hd.2.2.2.2.1.2 hd.2.2.2.2.2.1.2 hd.2.2.2.2.2.2.2
  have cm := C_many10 two
  generalize (if two then (2 : Int) else 1) = m at cm
  refine pcallF Try.func19 c19 rfl ?_
  cases q1 : lightD d with
  | false =>
    rw [q1] at l1
    unfold p19 r19_0 r19_1 r19_2 r19_3 r19_4 r19_5 r19_6 r19_7 r19_8 r19_9 r19_10 r19_11 r19_12 r19_13 r19_14 r19_15 r19_16 r19_17 r19_18
    repeat' (first | refine call1 rfl cm ?_ | refine call1 rfl l1 ?_ | refine call0 cw ?_ | refine w_seq ?_ | refine w_ops ?_ | refine st_nil ?_ | refine th_n ?_ | refine th_r ?_ | refine w_ret ?_ | refine w_true rfl ?_ | refine g_no rfl ?_ | refine mv_c rfl ?_ | refine pick_t rfl rfl ?_ | refine not_ rfl ?_ | refine box_ rfl rfl rfl (fun u => ?_) | refine load_ptr rfl (by decide) rfl (Nat.le_of_ble_eq_true rfl) rfl ?_)
    exact fin_r rfl rfl
  | true =>
    rw [q1] at l1
    have iD := lightD_in hd q1
    have cG := C_rdGood m d (inD_to iD (by omega))
    cases g : goodD m d with
    | false =>
      rw [g] at cG
      unfold p19 r19_0 r19_1 r19_2 r19_3 r19_4 r19_5 r19_6 r19_7 r19_8 r19_9 r19_10 r19_11 r19_12 r19_13 r19_14 r19_15 r19_16 r19_17 r19_18
      repeat' (first | refine call1 rfl cm ?_ | refine call1 rfl l1 ?_ | refine call2 rfl rfl cG ?_ | refine call0 cw ?_ | refine w_seq ?_ | refine w_ops ?_ | refine st_nil ?_ | refine th_n ?_ | refine th_r ?_ | refine w_ret ?_ | refine w_true rfl ?_ | refine g_yes rfl ?_ | refine mv_c rfl ?_ | refine pick_f rfl rfl ?_ | refine not_ rfl ?_ | refine box_ rfl rfl rfl (fun u => ?_) | refine load_ptr rfl (by decide) rfl (Nat.le_of_ble_eq_true rfl) rfl ?_)
      exact fin_r rfl rfl
    | true =>
      rw [g] at cG
      obtain ⟨gm, gn, g3, _⟩ := goodD_iff.mp g
      obtain ⟨q0, qo, _⟩ := mD_iff.mp g3
      have tail := fun (k : Nat) (s' : PS) (h : RSp d (spoilD k (xorI d.s0 by_) by_ d) m s') => sp_tail d _ m iD (spoil_in (how := k) g iD (wrap64_in64 _) hb) g (spoil_facts (how := k) (by_ := by_) g (xor_odd _ _)) s' h
      obtain ⟨n, s0, s1, i0, i1, o0, o1⟩ := d
      have li0 := iD.2.2.2.1.2
      have li1 := iD.2.2.2.2.1.2
      have lo0 := iD.2.2.2.2.2.1.2
      simp only at gn q0 qo li0 li1 lo0
      have hw := encR_len o0
      have hw1 := encR_len i1
      have hg0 : ([] : List (List CV)).length + (o0.map encR).length ≤ maxGrow := by simp [maxGrow]; omega
      have hg1 : ([] : List (List CV)).length + (i1.map encR).length ≤ maxGrow := by simp [maxGrow]; omega
      have hg2 : ∀ q : List CV, ([] ++ o0.map encR).length + [q].length ≤ maxGrow := fun q => by simp [maxGrow]; omega
      have hg3 : ∀ q p : List CV, ([] ++ i1.map encR).length + [q, p].length ≤ maxGrow := fun q p => by simp [maxGrow]; omega
      have hw3 : ∀ (a b c d : CV), ∀ e ∈ [[a, b], [c, d]], e.length = 2 := fun a b c d e he => by
        rcases List.mem_cons.mp he with rfl | he
        · rfl
        · cases List.mem_singleton.mp he; rfl
      have e3 : encL (o0 ++ [(by_, 0)]) = .sl ([] ++ o0.map encR ++ [[.int .i64 by_, .int .i64 0]]) := by simp [encL, encR]
      have e4 : encL (i1 ++ [(by_, 1), (by_, 1)]) = .sl ([] ++ i1.map encR ++ [[.int .i64 by_, .int .i64 1], [.int .i64 by_, .int .i64 1]]) := by simp [encL, encR]
      have lb : ∀ {l : List Run}, good l = true → ∀ r ∈ l, -9223372036854775808 ≤ r.2 + 1 ∧ r.2 + 1 ≤ 9223372036854775807 := fun gl r hr => by
        obtain ⟨_, gp, gs⟩ := good_iff.mp gl
        have := le_sum gp r hr
        simp only [cap] at gs
        omega
      have cL0 := C_Lay i0 by_ 1 (by omega) (lb q0)
      have cL1 := C_Lay o0 by_ 1 (by omega) (lb qo)
      unfold encDelta encD at l1 cG
      show wP _ p19 (initPS [.c (.bool two), .c (.agg [.int .i64 n, .int .i64 s0, .int .i64 s1, encL i0, encL i1, encL o0, encL o1]), .c (.agg [.int .u8 how, .int .i64 by_])]) _
      rcases (show how % 5 = 0 ∨ how % 5 = 1 ∨ how % 5 = 2 ∨ how % 5 = 3 ∨ how % 5 = 4 by omega) with hk | hk | hk | hk | hk
      · have hr := rem_5 hh.1 hk
        unfold p19 r19_0 r19_1 r19_2 r19_3 r19_4 r19_5 r19_6 r19_7 r19_8 r19_9 r19_10 r19_11 r19_12 r19_13 r19_14 r19_15 r19_16 r19_17 r19_18
        repeat' (first | refine w_cut (p := .seq (.ops false r19_5) _) (RSp ⟨n, s0, s1, i0, i1, o0, o1⟩ (spoilD 0 (xorI s0 by_) by_ ⟨n, s0, s1, i0, i1, o0, o1⟩) m) ?_ (tail 0) | refine call1 rfl cm ?_ | refine call1 rfl l1 ?_ | refine call2 rfl rfl cG ?_ | refine bin_ rfl rfl hr ?_ | refine w_seq ?_ | refine w_ops ?_ | refine st_nil ?_ | refine th_n ?_ | refine bk_n ?_ | refine w_block ?_ | refine w_skip ?_ | refine w_true rfl ?_ | refine w_false rfl ?_ | refine g_yes rfl ?_ | refine mv_c rfl ?_ | refine pick_f rfl rfl ?_ | refine eql_t rfl rfl (by omega) ?_ | refine not_ rfl ?_ | refine add_in rfl rfl (by omega) ?_ | refine alloc_ (fun u => ?_) | refine box_ rfl rfl rfl (fun u => ?_) | refine load_ptr rfl (by decide) rfl (Nat.le_of_ble_eq_true rfl) rfl ?_ | refine store_ptr rfl rfl (by decide) rfl rfl (Nat.le_of_ble_eq_true rfl) rfl ?_ | refine fad_ptr rfl rfl rfl ?_)
        exact ⟨_, _, by rfl, by rfl, by rfl, by rfl, by rfl⟩
      · have hr := rem_5 hh.1 hk
        unfold p19 r19_0 r19_1 r19_2 r19_3 r19_4 r19_5 r19_6 r19_7 r19_8 r19_9 r19_10 r19_11 r19_12 r19_13 r19_14 r19_15 r19_16 r19_17 r19_18
        repeat' (first | refine w_cut (p := .seq (.ops false r19_5) _) (RSp ⟨n, s0, s1, i0, i1, o0, o1⟩ (spoilD 1 (xorI s0 by_) by_ ⟨n, s0, s1, i0, i1, o0, o1⟩) m) ?_ (tail 1) | refine call1 rfl cm ?_ | refine call1 rfl l1 ?_ | refine call2 rfl rfl cG ?_ | refine bin_ rfl rfl hr ?_ | refine bin_ rfl rfl (or_1 _) ?_ | refine bin_ rfl rfl (xor_1 _ _) ?_ | refine w_seq ?_ | refine w_ops ?_ | refine st_nil ?_ | refine th_n ?_ | refine bk_n ?_ | refine w_block ?_ | refine w_skip ?_ | refine w_true rfl ?_ | refine w_false rfl ?_ | refine g_yes rfl ?_ | refine mv_c rfl ?_ | refine pick_f rfl rfl ?_ | refine eql_t rfl rfl (by omega) ?_ | refine eql_f rfl rfl (by omega) ?_ | refine not_ rfl ?_ | refine alloc_ (fun u => ?_) | refine box_ rfl rfl rfl (fun u => ?_) | refine load_ptr rfl (by decide) rfl (Nat.le_of_ble_eq_true rfl) rfl ?_ | refine store_ptr rfl rfl (by decide) rfl rfl (Nat.le_of_ble_eq_true rfl) rfl ?_ | refine fad_ptr rfl rfl rfl ?_ | refine iaA_ptr rfl rfl rfl (by omega) rfl ?_)
        exact ⟨_, _, by rfl, by rfl, by rfl, by rfl, by rfl⟩
      · have hr := rem_5 hh.1 hk
        unfold p19 r19_0 r19_1 r19_2 r19_3 r19_4 r19_5 r19_6 r19_7 r19_8 r19_9 r19_10 r19_11 r19_12 r19_13 r19_14 r19_15 r19_16 r19_17 r19_18
        repeat' (first | refine w_cut (p := .seq (.ops false r19_5) _) (RSp ⟨n, s0, s1, i0, i1, o0, o1⟩ (spoilD 2 (xorI s0 by_) by_ ⟨n, s0, s1, i0, i1, o0, o1⟩) m) ?_ (tail 2) | refine call1 rfl cm ?_ | refine call1 rfl l1 ?_ | refine call2 rfl rfl cG ?_ | refine bin_ rfl rfl hr ?_ | refine call3 rfl rfl rfl cL0 ?_ | refine call3 rfl rfl rfl cL1 ?_ | refine w_seq ?_ | refine w_ops ?_ | refine w_opsD0 rfl ?_ | refine st_nil ?_ | refine th_n ?_ | refine bk_n ?_ | refine w_block ?_ | refine w_skip ?_ | refine w_true rfl ?_ | refine w_false rfl ?_ | refine g_yes rfl ?_ | refine mv_c rfl ?_ | refine pick_f rfl rfl ?_ | refine eql_t rfl rfl (by omega) ?_ | refine eql_f rfl rfl (by omega) ?_ | refine not_ rfl ?_ | refine alloc_ (fun u => ?_) | refine box_ rfl rfl rfl (fun u => ?_) | refine load_ptr rfl (by decide) rfl (Nat.le_of_ble_eq_true rfl) rfl ?_ | refine store_ptr rfl rfl (by decide) rfl rfl (Nat.le_of_ble_eq_true rfl) rfl ?_ | refine fad_ptr rfl rfl rfl ?_ | refine iaA_ptr rfl rfl rfl (by omega) rfl ?_)
        exact ⟨_, _, by rfl, by rfl, by rfl, by rfl, by rfl⟩
      · have hr := rem_5 hh.1 hk
        unfold p19 r19_0 r19_1 r19_2 r19_3 r19_4 r19_5 r19_6 r19_7 r19_8 r19_9 r19_10 r19_11 r19_12 r19_13 r19_14 r19_15 r19_16 r19_17 r19_18
        repeat' (first | refine w_cut (p := .seq (.ops false r19_5) _) (RSp ⟨n, s0, s1, i0, i1, o0, o1⟩ (spoilD 3 (xorI s0 by_) by_ ⟨n, s0, s1, i0, i1, o0, o1⟩) m) ?_ (tail 3) | refine call1 rfl cm ?_ | refine call1 rfl l1 ?_ | refine call2 rfl rfl cG ?_ | refine bin_ rfl rfl hr ?_ | refine app_own rfl rfl rfl rfl hg0 hw rfl rfl (fun _ _ => ?_) | refine app_cl rfl rfl rfl rfl (hg2 _) (by intro e he; cases List.mem_singleton.mp he; rfl) rfl (fun u => ?_) | refine w_seq ?_ | refine w_ops ?_ | with_reducible refine lb_nil ?_ | with_reducible refine lb_x ?_ | refine lb_n rfl ?_ | refine lb_s rfl rfl ?_ | refine st_nil ?_ | refine th_n ?_ | refine bk_n ?_ | refine w_block ?_ | refine w_skip ?_ | refine w_opsB2 rfl (fun u u => ?_) | refine w_true rfl ?_ | refine w_false rfl ?_ | refine g_yes rfl ?_ | refine mv_c rfl ?_ | refine pick_f rfl rfl ?_ | refine eql_t rfl rfl (by omega) ?_ | refine eql_f rfl rfl (by omega) ?_ | refine not_ rfl ?_ | refine alloc_ (fun u => ?_) | refine box_ rfl rfl rfl (fun u => ?_) | refine build_ rfl rfl ?_ | refine bsl_ rfl rfl ?_ | refine bsl_own rfl rfl rfl (fun u => ?_) | refine load_ptr rfl (by decide) rfl (Nat.le_of_ble_eq_true rfl) rfl ?_ | refine store_ptr rfl rfl (by decide) rfl rfl (Nat.le_of_ble_eq_true rfl) rfl ?_ | refine fad_ptr rfl rfl rfl ?_ | refine iaA_ptr rfl rfl rfl (by omega) rfl ?_)
        refine ⟨_, _, by rfl, by rfl, by rfl, ?_, by rfl⟩
        show _ = Box.mk _ (BSt.var [.int .i64 n, .int .i64 s0, .int .i64 s1, encL i0, encL i1, encL (o0 ++ [(by_, 0)]), encL o1])
        rw [e3]
        rfl
      · have hr := rem_5 hh.1 hk
        unfold p19 r19_0 r19_1 r19_2 r19_3 r19_4 r19_5 r19_6 r19_7 r19_8 r19_9 r19_10 r19_11 r19_12 r19_13 r19_14 r19_15 r19_16 r19_17 r19_18
        repeat' (first | refine w_cut (p := .seq (.ops false r19_5) _) (RSp ⟨n, s0, s1, i0, i1, o0, o1⟩ (spoilD 4 (xorI s0 by_) by_ ⟨n, s0, s1, i0, i1, o0, o1⟩) m) ?_ (tail 4) | refine call1 rfl cm ?_ | refine call1 rfl l1 ?_ | refine call2 rfl rfl cG ?_ | refine bin_ rfl rfl hr ?_ | refine app_own rfl rfl rfl rfl hg1 hw1 rfl rfl (fun _ _ => ?_) | refine app_cl rfl rfl rfl rfl (hg3 _ _) (hw3 _ _ _ _) rfl (fun u => ?_) | refine w_seq ?_ | refine w_ops ?_ | with_reducible refine lb_nil ?_ | with_reducible refine lb_x ?_ | refine lb_n rfl ?_ | refine lb_s rfl rfl ?_ | refine st_nil ?_ | refine th_n ?_ | refine bk_n ?_ | refine w_block ?_ | refine w_skip ?_ | refine w_opsB2 rfl (fun u u => ?_) | refine w_false rfl ?_ | refine g_yes rfl ?_ | refine mv_c rfl ?_ | refine pick_f rfl rfl ?_ | refine eql_f rfl rfl (by omega) ?_ | refine not_ rfl ?_ | refine alloc_ (fun u => ?_) | refine box_ rfl rfl rfl (fun u => ?_) | refine build_ rfl rfl ?_ | refine bsl_ rfl rfl ?_ | refine bsl_own rfl rfl rfl (fun u => ?_) | refine load_ptr rfl (by decide) rfl (Nat.le_of_ble_eq_true rfl) rfl ?_ | refine store_ptr rfl rfl (by decide) rfl rfl (Nat.le_of_ble_eq_true rfl) rfl ?_ | refine fad_ptr rfl rfl rfl ?_ | refine iaA_ptr rfl rfl rfl (by omega) rfl ?_)
        refine ⟨_, _, by rfl, by rfl, by rfl, ?_, by rfl⟩
        show _ = Box.mk _ (BSt.var [.int .i64 n, .int .i64 s0, .int .i64 s1, encL i0, encL (i1 ++ [(by_, 1), (by_, 1)]), encL o0, encL o1])
        rw [e4]
        rfl
theorem L_DeltaSpoilt (c0 : CV) (h0 : LF.Ok .bool c0) (c1 : List CV) (h1 : OkL [.int .i64, .int .i64, .int .i64, .sl [.int .i64, .int .i64], .sl [.int .i64, .int .i64], .sl [.int .i64, .int .i64], .sl [.int .i64, .int .i64]] c1) (c2 : List CV) (h2 : OkL [.int .u8, .int .i64] c2) :
    PCallG Try.prog 19 [.c c0, .c (.agg c1), .c (.agg c2)] (.c (.bool true)) [] := by
  obtain ⟨two, rfl⟩ := ok_bool h0
  obtain ⟨d, rfl, iD⟩ := ok_delta h1
  obtain ⟨hl, he⟩ := h2
  match c2, hl, he with
  | [x0, x1], _, he =>
    obtain ⟨how, rfl, q0⟩ := ok_u8 (he 0 (by simp) (by simp))
    obtain ⟨b, rfl, q1⟩ := ok_i64 (he 1 (by simp) (by simp))
    exact C_DeltaSpoilt two d how b iD q0 q1
end Go.Proofs.Ytcmejdkjfekoeaa

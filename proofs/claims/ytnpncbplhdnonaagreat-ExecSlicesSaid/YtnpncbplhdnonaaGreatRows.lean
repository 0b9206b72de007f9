/-
  No cell of these rows narrows 'for every input' (looked for: loops, veiled, ifaces, maps, wideKeys, modest, calm, conditions, laid).
  DERIVED. THE GIVEN ROWS OF THIS SEAT. 8 by the template 'for every input the law returns true; each argument reads behind the call as it read before'; 0 by the template 'total and deterministic' (their statements: YtnpncbplhdnonaaGreatTotals.lean).
  GIVEN WITH THE SEED: the statements are not yours to turn. If you find one false, say at which input.
  Laid BY PROGRAM, IN A SANDBOX (cutbox-rows.mjs): the forced cells as the released guide's own fill.sh prints them over the translation af8ec4872e0efffd… (all of the seat's roots in one cut). By AI agents, Wed Nov 11 2026. No macro, syntax, notation, axiom, sorry.
-/
import Derived.Test.YtnpncbplhdnonaaGreatChecked
import GoSem.Claim
import GoSem.ClaimJoined
import GoSem.ClaimMapViews
import Derived.JoinedTies
import Derived.KernelRfl
namespace Go.Proofs.YtnpncbplhdnonaaGreat
/- THE CELL 'sum', in the pinned program and in every row, IS THE sha256 OF THE DUMP (.gsa) THAT YtnpncbplhdnonaaGreatProg.lean LOADS. Nothing in Lean hashes anything: it is a label: what it is worth is what the hold of that sum in a sandbox is worth. -/
noncomputable def Tryz.pinned : Pinned := { name := "ytnpncbplhdnonaagreat", sum := "af8ec4872e0efffd709d65df1e6dc925460432ea9e90af4de2ee537fe058d09c", checked := Tryz.checked }
namespace Rows
def none {H : Type} : Left H := { results := [], args := [] }

/-- 'cuboidlaw26.ExecTells': WHATEVER THE INPUT: true; the input reads as it did. -/
def execTellsSpec : ChangeSpec := { name := "execTells", fn := fun _ => fun
  | [d] => { results := [.lit (.bool true)], args := [d] }
  | _ => none }
def execTellsRow : OpenClaim := { program := "ytnpncbplhdnonaagreat", sum := "af8ec4872e0efffd709d65df1e6dc925460432ea9e90af4de2ee537fe058d09c", func := "cuboid/cuboidlaw26.ExecTells", spec := "execTells", inPlace := ["math/bits.Sub64", "math/bits.Add64"], unfollowed := true, recurses := true, plainKeys := false, apart := false }
def ExecTellsSaid : Prop := execTellsRow.holds Tryz.pinned (OpenSpec.ofChange execTellsSpec)

/-- ITS FALSE NEIGHBOUR: 'it returns false'. Refute it at one input. -/
def execTellsWrong : ChangeSpec := { name := "execTells", fn := fun _ => fun
  | [d] => { results := [.lit (.bool false)], args := [d] }
  | _ => none }
def ExecTellsWrongFalsely : Prop := execTellsRow.holds Tryz.pinned (OpenSpec.ofChange execTellsWrong)

/-- 'cuboidlaw26.ExecAnswers': WHATEVER THE INPUT: true; the input reads as it did. -/
def execAnswersSpec : ChangeSpec := { name := "execAnswers", fn := fun _ => fun
  | [d] => { results := [.lit (.bool true)], args := [d] }
  | _ => none }
def execAnswersRow : OpenClaim := { program := "ytnpncbplhdnonaagreat", sum := "af8ec4872e0efffd709d65df1e6dc925460432ea9e90af4de2ee537fe058d09c", func := "cuboid/cuboidlaw26.ExecAnswers", spec := "execAnswers", inPlace := ["math/bits.Sub64", "math/bits.Add64"], unfollowed := true, recurses := true, plainKeys := false, apart := false }
def ExecAnswersSaid : Prop := execAnswersRow.holds Tryz.pinned (OpenSpec.ofChange execAnswersSpec)

/-- ITS FALSE NEIGHBOUR: 'it returns false'. Refute it at one input. -/
def execAnswersWrong : ChangeSpec := { name := "execAnswers", fn := fun _ => fun
  | [d] => { results := [.lit (.bool false)], args := [d] }
  | _ => none }
def ExecAnswersWrongFalsely : Prop := execAnswersRow.holds Tryz.pinned (OpenSpec.ofChange execAnswersWrong)

/-- 'cuboidlaw26.ExecBest': WHATEVER THE INPUT: true; the input reads as it did. -/
def execBestSpec : ChangeSpec := { name := "execBest", fn := fun _ => fun
  | [d1, d2] => { results := [.lit (.bool true)], args := [d1, d2] }
  | _ => none }
def execBestRow : OpenClaim := { program := "ytnpncbplhdnonaagreat", sum := "af8ec4872e0efffd709d65df1e6dc925460432ea9e90af4de2ee537fe058d09c", func := "cuboid/cuboidlaw26.ExecBest", spec := "execBest", inPlace := ["math/bits.Sub64", "math/bits.Add64"], unfollowed := true, recurses := true, plainKeys := false, apart := false }
def ExecBestSaid : Prop := execBestRow.holds Tryz.pinned (OpenSpec.ofChange execBestSpec)

/-- ITS FALSE NEIGHBOUR: 'it returns false'. Refute it at one input. -/
def execBestWrong : ChangeSpec := { name := "execBest", fn := fun _ => fun
  | [d1, d2] => { results := [.lit (.bool false)], args := [d1, d2] }
  | _ => none }
def ExecBestWrongFalsely : Prop := execBestRow.holds Tryz.pinned (OpenSpec.ofChange execBestWrong)

/-- 'cuboidlaw26.ExecFirst': WHATEVER THE INPUT: true; the input reads as it did. -/
def execFirstSpec : ChangeSpec := { name := "execFirst", fn := fun _ => fun
  | [d1, d2, d3] => { results := [.lit (.bool true)], args := [d1, d2, d3] }
  | _ => none }
def execFirstRow : OpenClaim := { program := "ytnpncbplhdnonaagreat", sum := "af8ec4872e0efffd709d65df1e6dc925460432ea9e90af4de2ee537fe058d09c", func := "cuboid/cuboidlaw26.ExecFirst", spec := "execFirst", inPlace := ["math/bits.Sub64", "math/bits.Add64"], unfollowed := true, recurses := true, plainKeys := false, apart := false }
def ExecFirstSaid : Prop := execFirstRow.holds Tryz.pinned (OpenSpec.ofChange execFirstSpec)

/-- ITS FALSE NEIGHBOUR: 'it returns false'. Refute it at one input. -/
def execFirstWrong : ChangeSpec := { name := "execFirst", fn := fun _ => fun
  | [d1, d2, d3] => { results := [.lit (.bool false)], args := [d1, d2, d3] }
  | _ => none }
def ExecFirstWrongFalsely : Prop := execFirstRow.holds Tryz.pinned (OpenSpec.ofChange execFirstWrong)

/-- 'cuboidlaw26.ExecLevels': WHATEVER THE INPUT: true; the input reads as it did. -/
def execLevelsSpec : ChangeSpec := { name := "execLevels", fn := fun _ => fun
  | [d] => { results := [.lit (.bool true)], args := [d] }
  | _ => none }
def execLevelsRow : OpenClaim := { program := "ytnpncbplhdnonaagreat", sum := "af8ec4872e0efffd709d65df1e6dc925460432ea9e90af4de2ee537fe058d09c", func := "cuboid/cuboidlaw26.ExecLevels", spec := "execLevels", inPlace := ["math/bits.Sub64", "math/bits.Add64"], unfollowed := true, recurses := true, plainKeys := false, apart := false }
def ExecLevelsSaid : Prop := execLevelsRow.holds Tryz.pinned (OpenSpec.ofChange execLevelsSpec)

/-- ITS FALSE NEIGHBOUR: 'it returns false'. Refute it at one input. -/
def execLevelsWrong : ChangeSpec := { name := "execLevels", fn := fun _ => fun
  | [d] => { results := [.lit (.bool false)], args := [d] }
  | _ => none }
def ExecLevelsWrongFalsely : Prop := execLevelsRow.holds Tryz.pinned (OpenSpec.ofChange execLevelsWrong)

/-- 'cuboidlaw26.ExecTops': WHATEVER THE INPUT: true; the input reads as it did. -/
def execTopsSpec : ChangeSpec := { name := "execTops", fn := fun _ => fun
  | [d1, d2] => { results := [.lit (.bool true)], args := [d1, d2] }
  | _ => none }
def execTopsRow : OpenClaim := { program := "ytnpncbplhdnonaagreat", sum := "af8ec4872e0efffd709d65df1e6dc925460432ea9e90af4de2ee537fe058d09c", func := "cuboid/cuboidlaw26.ExecTops", spec := "execTops", inPlace := ["math/bits.Sub64", "math/bits.Add64"], unfollowed := true, recurses := true, plainKeys := false, apart := false }
def ExecTopsSaid : Prop := execTopsRow.holds Tryz.pinned (OpenSpec.ofChange execTopsSpec)

/-- ITS FALSE NEIGHBOUR: 'it returns false'. Refute it at one input. -/
def execTopsWrong : ChangeSpec := { name := "execTops", fn := fun _ => fun
  | [d1, d2] => { results := [.lit (.bool false)], args := [d1, d2] }
  | _ => none }
def ExecTopsWrongFalsely : Prop := execTopsRow.holds Tryz.pinned (OpenSpec.ofChange execTopsWrong)

/-- 'cuboidlaw26.ExecLimits': WHATEVER THE INPUT: true; the input reads as it did. -/
def execLimitsSpec : ChangeSpec := { name := "execLimits", fn := fun _ => fun
  | [d] => { results := [.lit (.bool true)], args := [d] }
  | _ => none }
def execLimitsRow : OpenClaim := { program := "ytnpncbplhdnonaagreat", sum := "af8ec4872e0efffd709d65df1e6dc925460432ea9e90af4de2ee537fe058d09c", func := "cuboid/cuboidlaw26.ExecLimits", spec := "execLimits", inPlace := ["math/bits.Sub64", "math/bits.Add64"], unfollowed := true, recurses := true, plainKeys := false, apart := false }
def ExecLimitsSaid : Prop := execLimitsRow.holds Tryz.pinned (OpenSpec.ofChange execLimitsSpec)

/-- ITS FALSE NEIGHBOUR: 'it returns false'. Refute it at one input. -/
def execLimitsWrong : ChangeSpec := { name := "execLimits", fn := fun _ => fun
  | [d] => { results := [.lit (.bool false)], args := [d] }
  | _ => none }
def ExecLimitsWrongFalsely : Prop := execLimitsRow.holds Tryz.pinned (OpenSpec.ofChange execLimitsWrong)

/-- 'cuboidlaw26.ExecSlices': WHATEVER THE INPUT: true; the input reads as it did. -/
def execSlicesSpec : ChangeSpec := { name := "execSlices", fn := fun _ => fun
  | [d1, d2, d3] => { results := [.lit (.bool true)], args := [d1, d2, d3] }
  | _ => none }
def execSlicesRow : OpenClaim := { program := "ytnpncbplhdnonaagreat", sum := "af8ec4872e0efffd709d65df1e6dc925460432ea9e90af4de2ee537fe058d09c", func := "cuboid/cuboidlaw26.ExecSlices", spec := "execSlices", inPlace := ["math/bits.Sub64", "math/bits.Add64"], unfollowed := true, recurses := true, plainKeys := false, apart := false }
def ExecSlicesSaid : Prop := execSlicesRow.holds Tryz.pinned (OpenSpec.ofChange execSlicesSpec)

/-- ITS FALSE NEIGHBOUR: 'it returns false'. Refute it at one input. -/
def execSlicesWrong : ChangeSpec := { name := "execSlices", fn := fun _ => fun
  | [d1, d2, d3] => { results := [.lit (.bool false)], args := [d1, d2, d3] }
  | _ => none }
def ExecSlicesWrongFalsely : Prop := execSlicesRow.holds Tryz.pinned (OpenSpec.ofChange execSlicesWrong)

/- THE SECOND FORM. 'bulk': how many values and letters a reading holds, each counted each time it is reached (what is shared counts as often as it is met; a slice's spare places count too). A statement '..UptoSaid' is the law's where the arguments, and the package variables that the reading takes, are together of bulk at most 1048576: NARROWER than '..Said'. Prove '..Said' where nothing that the law and all that it calls make is longer than what came in: it says more and counts as full. Else prove '..UptoSaid'. A law counts once. -/
mutual
def uptoBulk {H : Type} : DataW H → Nat
  | .lit (.string bytes) => bytes.length + 1
  | .lit _ => 1
  | .nil => 1
  | .ptr d => uptoBulk d + 1
  | .slice elems spare => uptoBulkAll elems + uptoBulkAll spare + 1
  | .agg parts => uptoBulkAll parts + 1
  | .iface _ d => uptoBulk d + 1
  | .map entries => uptoBulkEntries entries + 1
  | .held _ => 1
def uptoBulkAll {H : Type} : List (DataW H) → Nat
  | [] => 0
  | d :: r => uptoBulk d + uptoBulkAll r
def uptoBulkEntries {H : Type} : List (Lit × DataW H) → Nat
  | [] => 0
  | x :: r => uptoBulkEntry x + uptoBulkEntries r
def uptoBulkEntry {H : Type} : Lit × DataW H → Nat
  | (.string bytes, d) => bytes.length + uptoBulk d + 1
  | (_, d) => uptoBulk d + 1
 end
def uptoSmall : (H : Type) → List (DataW H) → Bool := fun _ ds => decide (uptoBulkAll ds ≤ 1048576)
def OpenSpec.upto (s : _root_.Go.ChangeSpec) : _root_.Go.OpenSpec := { _root_.Go.OpenSpec.ofChange s with cond := some uptoSmall }

/-- 'cuboidlaw26.ExecTells', WHERE WHAT IT READS IS OF BULK AT MOST 1048576: true; the input reads as it did. -/
def execTellsUptoRow : OpenClaim := { program := "ytnpncbplhdnonaagreat", sum := "af8ec4872e0efffd709d65df1e6dc925460432ea9e90af4de2ee537fe058d09c", func := "cuboid/cuboidlaw26.ExecTells", spec := "execTells", inPlace := ["math/bits.Sub64", "math/bits.Add64"], unfollowed := true, recurses := true, plainKeys := false, apart := false, narrowed := true }
def ExecTellsUptoSaid : Prop := execTellsUptoRow.holds Tryz.pinned (OpenSpec.upto execTellsSpec)

/-- 'cuboidlaw26.ExecAnswers', WHERE WHAT IT READS IS OF BULK AT MOST 1048576: true; the input reads as it did. -/
def execAnswersUptoRow : OpenClaim := { program := "ytnpncbplhdnonaagreat", sum := "af8ec4872e0efffd709d65df1e6dc925460432ea9e90af4de2ee537fe058d09c", func := "cuboid/cuboidlaw26.ExecAnswers", spec := "execAnswers", inPlace := ["math/bits.Sub64", "math/bits.Add64"], unfollowed := true, recurses := true, plainKeys := false, apart := false, narrowed := true }
def ExecAnswersUptoSaid : Prop := execAnswersUptoRow.holds Tryz.pinned (OpenSpec.upto execAnswersSpec)

/-- 'cuboidlaw26.ExecBest', WHERE WHAT IT READS IS OF BULK AT MOST 1048576: true; the input reads as it did. -/
def execBestUptoRow : OpenClaim := { program := "ytnpncbplhdnonaagreat", sum := "af8ec4872e0efffd709d65df1e6dc925460432ea9e90af4de2ee537fe058d09c", func := "cuboid/cuboidlaw26.ExecBest", spec := "execBest", inPlace := ["math/bits.Sub64", "math/bits.Add64"], unfollowed := true, recurses := true, plainKeys := false, apart := false, narrowed := true }
def ExecBestUptoSaid : Prop := execBestUptoRow.holds Tryz.pinned (OpenSpec.upto execBestSpec)

/-- 'cuboidlaw26.ExecFirst', WHERE WHAT IT READS IS OF BULK AT MOST 1048576: true; the input reads as it did. -/
def execFirstUptoRow : OpenClaim := { program := "ytnpncbplhdnonaagreat", sum := "af8ec4872e0efffd709d65df1e6dc925460432ea9e90af4de2ee537fe058d09c", func := "cuboid/cuboidlaw26.ExecFirst", spec := "execFirst", inPlace := ["math/bits.Sub64", "math/bits.Add64"], unfollowed := true, recurses := true, plainKeys := false, apart := false, narrowed := true }
def ExecFirstUptoSaid : Prop := execFirstUptoRow.holds Tryz.pinned (OpenSpec.upto execFirstSpec)

/-- 'cuboidlaw26.ExecLevels', WHERE WHAT IT READS IS OF BULK AT MOST 1048576: true; the input reads as it did. -/
def execLevelsUptoRow : OpenClaim := { program := "ytnpncbplhdnonaagreat", sum := "af8ec4872e0efffd709d65df1e6dc925460432ea9e90af4de2ee537fe058d09c", func := "cuboid/cuboidlaw26.ExecLevels", spec := "execLevels", inPlace := ["math/bits.Sub64", "math/bits.Add64"], unfollowed := true, recurses := true, plainKeys := false, apart := false, narrowed := true }
def ExecLevelsUptoSaid : Prop := execLevelsUptoRow.holds Tryz.pinned (OpenSpec.upto execLevelsSpec)

/-- 'cuboidlaw26.ExecTops', WHERE WHAT IT READS IS OF BULK AT MOST 1048576: true; the input reads as it did. -/
def execTopsUptoRow : OpenClaim := { program := "ytnpncbplhdnonaagreat", sum := "af8ec4872e0efffd709d65df1e6dc925460432ea9e90af4de2ee537fe058d09c", func := "cuboid/cuboidlaw26.ExecTops", spec := "execTops", inPlace := ["math/bits.Sub64", "math/bits.Add64"], unfollowed := true, recurses := true, plainKeys := false, apart := false, narrowed := true }
def ExecTopsUptoSaid : Prop := execTopsUptoRow.holds Tryz.pinned (OpenSpec.upto execTopsSpec)

/-- 'cuboidlaw26.ExecLimits', WHERE WHAT IT READS IS OF BULK AT MOST 1048576: true; the input reads as it did. -/
def execLimitsUptoRow : OpenClaim := { program := "ytnpncbplhdnonaagreat", sum := "af8ec4872e0efffd709d65df1e6dc925460432ea9e90af4de2ee537fe058d09c", func := "cuboid/cuboidlaw26.ExecLimits", spec := "execLimits", inPlace := ["math/bits.Sub64", "math/bits.Add64"], unfollowed := true, recurses := true, plainKeys := false, apart := false, narrowed := true }
def ExecLimitsUptoSaid : Prop := execLimitsUptoRow.holds Tryz.pinned (OpenSpec.upto execLimitsSpec)

/-- 'cuboidlaw26.ExecSlices', WHERE WHAT IT READS IS OF BULK AT MOST 1048576: true; the input reads as it did. -/
def execSlicesUptoRow : OpenClaim := { program := "ytnpncbplhdnonaagreat", sum := "af8ec4872e0efffd709d65df1e6dc925460432ea9e90af4de2ee537fe058d09c", func := "cuboid/cuboidlaw26.ExecSlices", spec := "execSlices", inPlace := ["math/bits.Sub64", "math/bits.Add64"], unfollowed := true, recurses := true, plainKeys := false, apart := false, narrowed := true }
def ExecSlicesUptoSaid : Prop := execSlicesUptoRow.holds Tryz.pinned (OpenSpec.upto execSlicesSpec)

end Rows
end Go.Proofs.YtnpncbplhdnonaaGreat

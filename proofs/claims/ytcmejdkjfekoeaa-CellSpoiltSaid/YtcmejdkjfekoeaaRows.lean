/-
  No cell of these rows narrows 'for every input' (looked for: loops, veiled, ifaces, maps, wideKeys, modest, calm, conditions, laid).
  DERIVED. THE GIVEN ROWS OF THIS SEAT. 17 by the template 'for every input the law returns true; each argument reads behind the call as it read before'; 0 by the template 'total and deterministic' (their statements: YtcmejdkjfekoeaaTotals.lean).
  GIVEN WITH THE SEED: the statements are not yours to turn. If you find one false, say at which input.
  Laid BY PROGRAM, IN A SANDBOX (cutbox-rows.mjs): the forced cells as the released guide's own fill.sh prints them over the translation c28015d6ac55c31d… (all of the seat's roots in one cut). By AI agents, Wed Nov 11 2026. No macro, syntax, notation, axiom, sorry.
-/
import Derived.Test.YtcmejdkjfekoeaaChecked
import GoSem.Claim
import GoSem.ClaimJoined
import GoSem.ClaimMapViews
import Derived.JoinedTies
import Derived.KernelRfl
namespace Go.Proofs.Ytcmejdkjfekoeaa
/- THE CELL 'sum', in the pinned program and in every row, IS THE sha256 OF THE DUMP (.gsa) THAT YtcmejdkjfekoeaaProg.lean LOADS. Nothing in Lean hashes anything: it is a label: what it is worth is what the hold of that sum in a sandbox is worth. -/
noncomputable def Try.pinned : Pinned := { name := "ytcmejdkjfekoeaa", sum := "c28015d6ac55c31d028fe6c3e85c7030adbb73030785706a1b118d4b6a91eced", checked := Try.checked }
namespace Rows
def none {H : Type} : Left H := { results := [], args := [] }

/-- 'cuboidlaw08.BagEnds': WHATEVER THE INPUT: true; the input reads as it did. -/
def bagEndsSpec : ChangeSpec := { name := "bagEnds", fn := fun _ => fun
  | [d] => { results := [.lit (.bool true)], args := [d] }
  | _ => none }
def bagEndsRow : OpenClaim := { program := "ytcmejdkjfekoeaa", sum := "c28015d6ac55c31d028fe6c3e85c7030adbb73030785706a1b118d4b6a91eced", func := "cuboid/cuboidlaw08.BagEnds", spec := "bagEnds", inPlace := ["math/bits.Sub64", "math/bits.Add64"], unfollowed := true, recurses := true, apart := false }
def BagEndsSaid : Prop := bagEndsRow.holds Try.pinned (OpenSpec.ofChange bagEndsSpec)

/-- ITS FALSE NEIGHBOUR: 'it returns false'. Refute it at one input. -/
def bagEndsWrong : ChangeSpec := { name := "bagEnds", fn := fun _ => fun
  | [d] => { results := [.lit (.bool false)], args := [d] }
  | _ => none }
def BagEndsWrongFalsely : Prop := bagEndsRow.holds Try.pinned (OpenSpec.ofChange bagEndsWrong)

/-- 'cuboidlaw08.BagMany': WHATEVER THE INPUT: true; the input reads as it did. -/
def bagManySpec : ChangeSpec := { name := "bagMany", fn := fun _ => fun
  | [d1, d2, d3] => { results := [.lit (.bool true)], args := [d1, d2, d3] }
  | _ => none }
def bagManyRow : OpenClaim := { program := "ytcmejdkjfekoeaa", sum := "c28015d6ac55c31d028fe6c3e85c7030adbb73030785706a1b118d4b6a91eced", func := "cuboid/cuboidlaw08.BagMany", spec := "bagMany", inPlace := ["math/bits.Sub64", "math/bits.Add64"], unfollowed := true, recurses := true, apart := false }
def BagManySaid : Prop := bagManyRow.holds Try.pinned (OpenSpec.ofChange bagManySpec)

/-- ITS FALSE NEIGHBOUR: 'it returns false'. Refute it at one input. -/
def bagManyWrong : ChangeSpec := { name := "bagMany", fn := fun _ => fun
  | [d1, d2, d3] => { results := [.lit (.bool false)], args := [d1, d2, d3] }
  | _ => none }
def BagManyWrongFalsely : Prop := bagManyRow.holds Try.pinned (OpenSpec.ofChange bagManyWrong)

/-- 'cuboidlaw08.BagOf': WHATEVER THE INPUT: true; the input reads as it did. -/
def bagOfSpec : ChangeSpec := { name := "bagOf", fn := fun _ => fun
  | [d1, d2] => { results := [.lit (.bool true)], args := [d1, d2] }
  | _ => none }
def bagOfRow : OpenClaim := { program := "ytcmejdkjfekoeaa", sum := "c28015d6ac55c31d028fe6c3e85c7030adbb73030785706a1b118d4b6a91eced", func := "cuboid/cuboidlaw08.BagOf", spec := "bagOf", inPlace := ["math/bits.Sub64", "math/bits.Add64"], unfollowed := true, recurses := true, apart := false }
def BagOfSaid : Prop := bagOfRow.holds Try.pinned (OpenSpec.ofChange bagOfSpec)

/-- ITS FALSE NEIGHBOUR: 'it returns false'. Refute it at one input. -/
def bagOfWrong : ChangeSpec := { name := "bagOf", fn := fun _ => fun
  | [d1, d2] => { results := [.lit (.bool false)], args := [d1, d2] }
  | _ => none }
def BagOfWrongFalsely : Prop := bagOfRow.holds Try.pinned (OpenSpec.ofChange bagOfWrong)

/-- 'cuboidlaw08.BagBack': WHATEVER THE INPUT: true; the input reads as it did. -/
def bagBackSpec : ChangeSpec := { name := "bagBack", fn := fun _ => fun
  | [d1, d2] => { results := [.lit (.bool true)], args := [d1, d2] }
  | _ => none }
def bagBackRow : OpenClaim := { program := "ytcmejdkjfekoeaa", sum := "c28015d6ac55c31d028fe6c3e85c7030adbb73030785706a1b118d4b6a91eced", func := "cuboid/cuboidlaw08.BagBack", spec := "bagBack", inPlace := ["math/bits.Sub64", "math/bits.Add64"], unfollowed := true, recurses := true, apart := false }
def BagBackSaid : Prop := bagBackRow.holds Try.pinned (OpenSpec.ofChange bagBackSpec)

/-- ITS FALSE NEIGHBOUR: 'it returns false'. Refute it at one input. -/
def bagBackWrong : ChangeSpec := { name := "bagBack", fn := fun _ => fun
  | [d1, d2] => { results := [.lit (.bool false)], args := [d1, d2] }
  | _ => none }
def BagBackWrongFalsely : Prop := bagBackRow.holds Try.pinned (OpenSpec.ofChange bagBackWrong)

/-- 'cuboidlaw08.BagTells': WHATEVER THE INPUT: true; the input reads as it did. -/
def bagTellsSpec : ChangeSpec := { name := "bagTells", fn := fun _ => fun
  | [d1, d2, d3] => { results := [.lit (.bool true)], args := [d1, d2, d3] }
  | _ => none }
def bagTellsRow : OpenClaim := { program := "ytcmejdkjfekoeaa", sum := "c28015d6ac55c31d028fe6c3e85c7030adbb73030785706a1b118d4b6a91eced", func := "cuboid/cuboidlaw08.BagTells", spec := "bagTells", inPlace := ["math/bits.Sub64", "math/bits.Add64"], unfollowed := true, recurses := true, apart := false }
def BagTellsSaid : Prop := bagTellsRow.holds Try.pinned (OpenSpec.ofChange bagTellsSpec)

/-- ITS FALSE NEIGHBOUR: 'it returns false'. Refute it at one input. -/
def bagTellsWrong : ChangeSpec := { name := "bagTells", fn := fun _ => fun
  | [d1, d2, d3] => { results := [.lit (.bool false)], args := [d1, d2, d3] }
  | _ => none }
def BagTellsWrongFalsely : Prop := bagTellsRow.holds Try.pinned (OpenSpec.ofChange bagTellsWrong)

/-- 'cuboidlaw09.CellTells': WHATEVER THE INPUT: true; the input reads as it did. -/
def cellTellsSpec : ChangeSpec := { name := "cellTells", fn := fun _ => fun
  | [d1, d2] => { results := [.lit (.bool true)], args := [d1, d2] }
  | _ => none }
def cellTellsRow : OpenClaim := { program := "ytcmejdkjfekoeaa", sum := "c28015d6ac55c31d028fe6c3e85c7030adbb73030785706a1b118d4b6a91eced", func := "cuboid/cuboidlaw09.CellTells", spec := "cellTells", inPlace := ["math/bits.Sub64", "math/bits.Add64"], unfollowed := true, recurses := true, apart := false }
def CellTellsSaid : Prop := cellTellsRow.holds Try.pinned (OpenSpec.ofChange cellTellsSpec)

/-- ITS FALSE NEIGHBOUR: 'it returns false'. Refute it at one input. -/
def cellTellsWrong : ChangeSpec := { name := "cellTells", fn := fun _ => fun
  | [d1, d2] => { results := [.lit (.bool false)], args := [d1, d2] }
  | _ => none }
def CellTellsWrongFalsely : Prop := cellTellsRow.holds Try.pinned (OpenSpec.ofChange cellTellsWrong)

/-- 'cuboidlaw09.CellJoins': WHATEVER THE INPUT: true; the input reads as it did. -/
def cellJoinsSpec : ChangeSpec := { name := "cellJoins", fn := fun _ => fun
  | [d1, d2, d3] => { results := [.lit (.bool true)], args := [d1, d2, d3] }
  | _ => none }
def cellJoinsRow : OpenClaim := { program := "ytcmejdkjfekoeaa", sum := "c28015d6ac55c31d028fe6c3e85c7030adbb73030785706a1b118d4b6a91eced", func := "cuboid/cuboidlaw09.CellJoins", spec := "cellJoins", inPlace := ["math/bits.Sub64", "math/bits.Add64"], unfollowed := true, recurses := true, apart := false }
def CellJoinsSaid : Prop := cellJoinsRow.holds Try.pinned (OpenSpec.ofChange cellJoinsSpec)

/-- ITS FALSE NEIGHBOUR: 'it returns false'. Refute it at one input. -/
def cellJoinsWrong : ChangeSpec := { name := "cellJoins", fn := fun _ => fun
  | [d1, d2, d3] => { results := [.lit (.bool false)], args := [d1, d2, d3] }
  | _ => none }
def CellJoinsWrongFalsely : Prop := cellJoinsRow.holds Try.pinned (OpenSpec.ofChange cellJoinsWrong)

/-- 'cuboidlaw09.CellLines': WHATEVER THE INPUT: true; the input reads as it did. -/
def cellLinesSpec : ChangeSpec := { name := "cellLines", fn := fun _ => fun
  | [d1, d2, d3] => { results := [.lit (.bool true)], args := [d1, d2, d3] }
  | _ => none }
def cellLinesRow : OpenClaim := { program := "ytcmejdkjfekoeaa", sum := "c28015d6ac55c31d028fe6c3e85c7030adbb73030785706a1b118d4b6a91eced", func := "cuboid/cuboidlaw09.CellLines", spec := "cellLines", inPlace := ["math/bits.Sub64", "math/bits.Add64"], unfollowed := true, recurses := true, apart := false }
def CellLinesSaid : Prop := cellLinesRow.holds Try.pinned (OpenSpec.ofChange cellLinesSpec)

/-- ITS FALSE NEIGHBOUR: 'it returns false'. Refute it at one input. -/
def cellLinesWrong : ChangeSpec := { name := "cellLines", fn := fun _ => fun
  | [d1, d2, d3] => { results := [.lit (.bool false)], args := [d1, d2, d3] }
  | _ => none }
def CellLinesWrongFalsely : Prop := cellLinesRow.holds Try.pinned (OpenSpec.ofChange cellLinesWrong)

/-- 'cuboidlaw09.CellOrder': WHATEVER THE INPUT: true; the input reads as it did. -/
def cellOrderSpec : ChangeSpec := { name := "cellOrder", fn := fun _ => fun
  | [d1, d2, d3] => { results := [.lit (.bool true)], args := [d1, d2, d3] }
  | _ => none }
def cellOrderRow : OpenClaim := { program := "ytcmejdkjfekoeaa", sum := "c28015d6ac55c31d028fe6c3e85c7030adbb73030785706a1b118d4b6a91eced", func := "cuboid/cuboidlaw09.CellOrder", spec := "cellOrder", inPlace := ["math/bits.Sub64", "math/bits.Add64"], unfollowed := true, recurses := true, apart := false }
def CellOrderSaid : Prop := cellOrderRow.holds Try.pinned (OpenSpec.ofChange cellOrderSpec)

/-- ITS FALSE NEIGHBOUR: 'it returns false'. Refute it at one input. -/
def cellOrderWrong : ChangeSpec := { name := "cellOrder", fn := fun _ => fun
  | [d1, d2, d3] => { results := [.lit (.bool false)], args := [d1, d2, d3] }
  | _ => none }
def CellOrderWrongFalsely : Prop := cellOrderRow.holds Try.pinned (OpenSpec.ofChange cellOrderWrong)

/-- 'cuboidlaw09.CellMean': WHATEVER THE INPUT: true; the input reads as it did. -/
def cellMeanSpec : ChangeSpec := { name := "cellMean", fn := fun _ => fun
  | [d1, d2, d3] => { results := [.lit (.bool true)], args := [d1, d2, d3] }
  | _ => none }
def cellMeanRow : OpenClaim := { program := "ytcmejdkjfekoeaa", sum := "c28015d6ac55c31d028fe6c3e85c7030adbb73030785706a1b118d4b6a91eced", func := "cuboid/cuboidlaw09.CellMean", spec := "cellMean", inPlace := ["math/bits.Sub64", "math/bits.Add64"], unfollowed := true, recurses := true, apart := false }
def CellMeanSaid : Prop := cellMeanRow.holds Try.pinned (OpenSpec.ofChange cellMeanSpec)

/-- ITS FALSE NEIGHBOUR: 'it returns false'. Refute it at one input. -/
def cellMeanWrong : ChangeSpec := { name := "cellMean", fn := fun _ => fun
  | [d1, d2, d3] => { results := [.lit (.bool false)], args := [d1, d2, d3] }
  | _ => none }
def CellMeanWrongFalsely : Prop := cellMeanRow.holds Try.pinned (OpenSpec.ofChange cellMeanWrong)

/-- 'cuboidlaw09.CellSpoilt': WHATEVER THE INPUT: true; the input reads as it did. -/
def cellSpoiltSpec : ChangeSpec := { name := "cellSpoilt", fn := fun _ => fun
  | [d1, d2, d3] => { results := [.lit (.bool true)], args := [d1, d2, d3] }
  | _ => none }
def cellSpoiltRow : OpenClaim := { program := "ytcmejdkjfekoeaa", sum := "c28015d6ac55c31d028fe6c3e85c7030adbb73030785706a1b118d4b6a91eced", func := "cuboid/cuboidlaw09.CellSpoilt", spec := "cellSpoilt", inPlace := ["math/bits.Sub64", "math/bits.Add64"], unfollowed := true, recurses := true, apart := false }
def CellSpoiltSaid : Prop := cellSpoiltRow.holds Try.pinned (OpenSpec.ofChange cellSpoiltSpec)

/-- ITS FALSE NEIGHBOUR: 'it returns false'. Refute it at one input. -/
def cellSpoiltWrong : ChangeSpec := { name := "cellSpoilt", fn := fun _ => fun
  | [d1, d2, d3] => { results := [.lit (.bool false)], args := [d1, d2, d3] }
  | _ => none }
def CellSpoiltWrongFalsely : Prop := cellSpoiltRow.holds Try.pinned (OpenSpec.ofChange cellSpoiltWrong)

/-- 'cuboidlaw10.DeltaTells': WHATEVER THE INPUT: true; the input reads as it did. -/
def deltaTellsSpec : ChangeSpec := { name := "deltaTells", fn := fun _ => fun
  | [d1, d2] => { results := [.lit (.bool true)], args := [d1, d2] }
  | _ => none }
def deltaTellsRow : OpenClaim := { program := "ytcmejdkjfekoeaa", sum := "c28015d6ac55c31d028fe6c3e85c7030adbb73030785706a1b118d4b6a91eced", func := "cuboid/cuboidlaw10.DeltaTells", spec := "deltaTells", inPlace := ["math/bits.Sub64", "math/bits.Add64"], unfollowed := true, recurses := true, apart := false }
def DeltaTellsSaid : Prop := deltaTellsRow.holds Try.pinned (OpenSpec.ofChange deltaTellsSpec)

/-- ITS FALSE NEIGHBOUR: 'it returns false'. Refute it at one input. -/
def deltaTellsWrong : ChangeSpec := { name := "deltaTells", fn := fun _ => fun
  | [d1, d2] => { results := [.lit (.bool false)], args := [d1, d2] }
  | _ => none }
def DeltaTellsWrongFalsely : Prop := deltaTellsRow.holds Try.pinned (OpenSpec.ofChange deltaTellsWrong)

/-- 'cuboidlaw10.DeltaApplies': WHATEVER THE INPUT: true; the input reads as it did. -/
def deltaAppliesSpec : ChangeSpec := { name := "deltaApplies", fn := fun _ => fun
  | [d1, d2, d3] => { results := [.lit (.bool true)], args := [d1, d2, d3] }
  | _ => none }
def deltaAppliesRow : OpenClaim := { program := "ytcmejdkjfekoeaa", sum := "c28015d6ac55c31d028fe6c3e85c7030adbb73030785706a1b118d4b6a91eced", func := "cuboid/cuboidlaw10.DeltaApplies", spec := "deltaApplies", inPlace := ["math/bits.Sub64", "math/bits.Add64"], unfollowed := true, recurses := true, apart := false }
def DeltaAppliesSaid : Prop := deltaAppliesRow.holds Try.pinned (OpenSpec.ofChange deltaAppliesSpec)

/-- ITS FALSE NEIGHBOUR: 'it returns false'. Refute it at one input. -/
def deltaAppliesWrong : ChangeSpec := { name := "deltaApplies", fn := fun _ => fun
  | [d1, d2, d3] => { results := [.lit (.bool false)], args := [d1, d2, d3] }
  | _ => none }
def DeltaAppliesWrongFalsely : Prop := deltaAppliesRow.holds Try.pinned (OpenSpec.ofChange deltaAppliesWrong)

/-- 'cuboidlaw10.DeltaBack': WHATEVER THE INPUT: true; the input reads as it did. -/
def deltaBackSpec : ChangeSpec := { name := "deltaBack", fn := fun _ => fun
  | [d1, d2, d3] => { results := [.lit (.bool true)], args := [d1, d2, d3] }
  | _ => none }
def deltaBackRow : OpenClaim := { program := "ytcmejdkjfekoeaa", sum := "c28015d6ac55c31d028fe6c3e85c7030adbb73030785706a1b118d4b6a91eced", func := "cuboid/cuboidlaw10.DeltaBack", spec := "deltaBack", inPlace := ["math/bits.Sub64", "math/bits.Add64"], unfollowed := true, recurses := true, apart := false }
def DeltaBackSaid : Prop := deltaBackRow.holds Try.pinned (OpenSpec.ofChange deltaBackSpec)

/-- ITS FALSE NEIGHBOUR: 'it returns false'. Refute it at one input. -/
def deltaBackWrong : ChangeSpec := { name := "deltaBack", fn := fun _ => fun
  | [d1, d2, d3] => { results := [.lit (.bool false)], args := [d1, d2, d3] }
  | _ => none }
def DeltaBackWrongFalsely : Prop := deltaBackRow.holds Try.pinned (OpenSpec.ofChange deltaBackWrong)

/-- 'cuboidlaw10.DeltaRows': WHATEVER THE INPUT: true; the input reads as it did. -/
def deltaRowsSpec : ChangeSpec := { name := "deltaRows", fn := fun _ => fun
  | [d1, d2, d3] => { results := [.lit (.bool true)], args := [d1, d2, d3] }
  | _ => none }
def deltaRowsRow : OpenClaim := { program := "ytcmejdkjfekoeaa", sum := "c28015d6ac55c31d028fe6c3e85c7030adbb73030785706a1b118d4b6a91eced", func := "cuboid/cuboidlaw10.DeltaRows", spec := "deltaRows", inPlace := ["math/bits.Sub64", "math/bits.Add64"], unfollowed := true, recurses := true, apart := false }
def DeltaRowsSaid : Prop := deltaRowsRow.holds Try.pinned (OpenSpec.ofChange deltaRowsSpec)

/-- ITS FALSE NEIGHBOUR: 'it returns false'. Refute it at one input. -/
def deltaRowsWrong : ChangeSpec := { name := "deltaRows", fn := fun _ => fun
  | [d1, d2, d3] => { results := [.lit (.bool false)], args := [d1, d2, d3] }
  | _ => none }
def DeltaRowsWrongFalsely : Prop := deltaRowsRow.holds Try.pinned (OpenSpec.ofChange deltaRowsWrong)

/-- 'cuboidlaw10.DeltaJoins': WHATEVER THE INPUT: true; the input reads as it did. -/
def deltaJoinsSpec : ChangeSpec := { name := "deltaJoins", fn := fun _ => fun
  | [d1, d2] => { results := [.lit (.bool true)], args := [d1, d2] }
  | _ => none }
def deltaJoinsRow : OpenClaim := { program := "ytcmejdkjfekoeaa", sum := "c28015d6ac55c31d028fe6c3e85c7030adbb73030785706a1b118d4b6a91eced", func := "cuboid/cuboidlaw10.DeltaJoins", spec := "deltaJoins", inPlace := ["math/bits.Sub64", "math/bits.Add64"], unfollowed := true, recurses := true, apart := false }
def DeltaJoinsSaid : Prop := deltaJoinsRow.holds Try.pinned (OpenSpec.ofChange deltaJoinsSpec)

/-- ITS FALSE NEIGHBOUR: 'it returns false'. Refute it at one input. -/
def deltaJoinsWrong : ChangeSpec := { name := "deltaJoins", fn := fun _ => fun
  | [d1, d2] => { results := [.lit (.bool false)], args := [d1, d2] }
  | _ => none }
def DeltaJoinsWrongFalsely : Prop := deltaJoinsRow.holds Try.pinned (OpenSpec.ofChange deltaJoinsWrong)

/-- 'cuboidlaw10.DeltaSpoilt': WHATEVER THE INPUT: true; the input reads as it did. -/
def deltaSpoiltSpec : ChangeSpec := { name := "deltaSpoilt", fn := fun _ => fun
  | [d1, d2, d3] => { results := [.lit (.bool true)], args := [d1, d2, d3] }
  | _ => none }
def deltaSpoiltRow : OpenClaim := { program := "ytcmejdkjfekoeaa", sum := "c28015d6ac55c31d028fe6c3e85c7030adbb73030785706a1b118d4b6a91eced", func := "cuboid/cuboidlaw10.DeltaSpoilt", spec := "deltaSpoilt", inPlace := ["math/bits.Sub64", "math/bits.Add64"], unfollowed := true, recurses := true, apart := false }
def DeltaSpoiltSaid : Prop := deltaSpoiltRow.holds Try.pinned (OpenSpec.ofChange deltaSpoiltSpec)

/-- ITS FALSE NEIGHBOUR: 'it returns false'. Refute it at one input. -/
def deltaSpoiltWrong : ChangeSpec := { name := "deltaSpoilt", fn := fun _ => fun
  | [d1, d2, d3] => { results := [.lit (.bool false)], args := [d1, d2, d3] }
  | _ => none }
def DeltaSpoiltWrongFalsely : Prop := deltaSpoiltRow.holds Try.pinned (OpenSpec.ofChange deltaSpoiltWrong)

/- THE SECOND FORM. 'bulk': how many values and letters a reading holds, each counted each time it is reached (what is shared counts as often as it is met; a slice's spare places count too). A statement '..UptoSaid' is the law's where the arguments, and the package variables that the reading takes, are together of bulk at most 1048576: NARROWER than '..Said'. Prove '..Said' where nothing that the law and all that it calls make is longer than what came in: it says more and counts as full. Else prove '..UptoSaid'. A law counts once. -/
mutual
def uptoBulk {H : Type} : DataW H → Nat
  | .lit (.string bytes) => bytes.length + 1
  | .lit _ => 1
  | .nil => 1
  | .ptr d => uptoBulk d + 1
  | .slice elems spare => uptoBulkAll elems + uptoBulkAll spare + 1
  | .agg parts => uptoBulkAll parts + 1
  | .iface _ d => uptoBulk d + 1
  | .map entries => uptoBulkEntries entries + 1
  | .held _ => 1
def uptoBulkAll {H : Type} : List (DataW H) → Nat
  | [] => 0
  | d :: r => uptoBulk d + uptoBulkAll r
def uptoBulkEntries {H : Type} : List (Lit × DataW H) → Nat
  | [] => 0
  | x :: r => uptoBulkEntry x + uptoBulkEntries r
def uptoBulkEntry {H : Type} : Lit × DataW H → Nat
  | (.string bytes, d) => bytes.length + uptoBulk d + 1
  | (_, d) => uptoBulk d + 1
 end
def uptoSmall : (H : Type) → List (DataW H) → Bool := fun _ ds => decide (uptoBulkAll ds ≤ 1048576)
def OpenSpec.upto (s : _root_.Go.ChangeSpec) : _root_.Go.OpenSpec := { _root_.Go.OpenSpec.ofChange s with cond := some uptoSmall }

/-- 'cuboidlaw08.BagEnds', WHERE WHAT IT READS IS OF BULK AT MOST 1048576: true; the input reads as it did. -/
def bagEndsUptoRow : OpenClaim := { program := "ytcmejdkjfekoeaa", sum := "c28015d6ac55c31d028fe6c3e85c7030adbb73030785706a1b118d4b6a91eced", func := "cuboid/cuboidlaw08.BagEnds", spec := "bagEnds", inPlace := ["math/bits.Sub64", "math/bits.Add64"], unfollowed := true, recurses := true, apart := false, narrowed := true }
def BagEndsUptoSaid : Prop := bagEndsUptoRow.holds Try.pinned (OpenSpec.upto bagEndsSpec)

/-- 'cuboidlaw08.BagMany', WHERE WHAT IT READS IS OF BULK AT MOST 1048576: true; the input reads as it did. -/
def bagManyUptoRow : OpenClaim := { program := "ytcmejdkjfekoeaa", sum := "c28015d6ac55c31d028fe6c3e85c7030adbb73030785706a1b118d4b6a91eced", func := "cuboid/cuboidlaw08.BagMany", spec := "bagMany", inPlace := ["math/bits.Sub64", "math/bits.Add64"], unfollowed := true, recurses := true, apart := false, narrowed := true }
def BagManyUptoSaid : Prop := bagManyUptoRow.holds Try.pinned (OpenSpec.upto bagManySpec)

/-- 'cuboidlaw08.BagOf', WHERE WHAT IT READS IS OF BULK AT MOST 1048576: true; the input reads as it did. -/
def bagOfUptoRow : OpenClaim := { program := "ytcmejdkjfekoeaa", sum := "c28015d6ac55c31d028fe6c3e85c7030adbb73030785706a1b118d4b6a91eced", func := "cuboid/cuboidlaw08.BagOf", spec := "bagOf", inPlace := ["math/bits.Sub64", "math/bits.Add64"], unfollowed := true, recurses := true, apart := false, narrowed := true }
def BagOfUptoSaid : Prop := bagOfUptoRow.holds Try.pinned (OpenSpec.upto bagOfSpec)

/-- 'cuboidlaw08.BagBack', WHERE WHAT IT READS IS OF BULK AT MOST 1048576: true; the input reads as it did. -/
def bagBackUptoRow : OpenClaim := { program := "ytcmejdkjfekoeaa", sum := "c28015d6ac55c31d028fe6c3e85c7030adbb73030785706a1b118d4b6a91eced", func := "cuboid/cuboidlaw08.BagBack", spec := "bagBack", inPlace := ["math/bits.Sub64", "math/bits.Add64"], unfollowed := true, recurses := true, apart := false, narrowed := true }
def BagBackUptoSaid : Prop := bagBackUptoRow.holds Try.pinned (OpenSpec.upto bagBackSpec)

/-- 'cuboidlaw08.BagTells', WHERE WHAT IT READS IS OF BULK AT MOST 1048576: true; the input reads as it did. -/
def bagTellsUptoRow : OpenClaim := { program := "ytcmejdkjfekoeaa", sum := "c28015d6ac55c31d028fe6c3e85c7030adbb73030785706a1b118d4b6a91eced", func := "cuboid/cuboidlaw08.BagTells", spec := "bagTells", inPlace := ["math/bits.Sub64", "math/bits.Add64"], unfollowed := true, recurses := true, apart := false, narrowed := true }
def BagTellsUptoSaid : Prop := bagTellsUptoRow.holds Try.pinned (OpenSpec.upto bagTellsSpec)

/-- 'cuboidlaw09.CellTells', WHERE WHAT IT READS IS OF BULK AT MOST 1048576: true; the input reads as it did. -/
def cellTellsUptoRow : OpenClaim := { program := "ytcmejdkjfekoeaa", sum := "c28015d6ac55c31d028fe6c3e85c7030adbb73030785706a1b118d4b6a91eced", func := "cuboid/cuboidlaw09.CellTells", spec := "cellTells", inPlace := ["math/bits.Sub64", "math/bits.Add64"], unfollowed := true, recurses := true, apart := false, narrowed := true }
def CellTellsUptoSaid : Prop := cellTellsUptoRow.holds Try.pinned (OpenSpec.upto cellTellsSpec)

/-- 'cuboidlaw09.CellJoins', WHERE WHAT IT READS IS OF BULK AT MOST 1048576: true; the input reads as it did. -/
def cellJoinsUptoRow : OpenClaim := { program := "ytcmejdkjfekoeaa", sum := "c28015d6ac55c31d028fe6c3e85c7030adbb73030785706a1b118d4b6a91eced", func := "cuboid/cuboidlaw09.CellJoins", spec := "cellJoins", inPlace := ["math/bits.Sub64", "math/bits.Add64"], unfollowed := true, recurses := true, apart := false, narrowed := true }
def CellJoinsUptoSaid : Prop := cellJoinsUptoRow.holds Try.pinned (OpenSpec.upto cellJoinsSpec)

/-- 'cuboidlaw09.CellLines', WHERE WHAT IT READS IS OF BULK AT MOST 1048576: true; the input reads as it did. -/
def cellLinesUptoRow : OpenClaim := { program := "ytcmejdkjfekoeaa", sum := "c28015d6ac55c31d028fe6c3e85c7030adbb73030785706a1b118d4b6a91eced", func := "cuboid/cuboidlaw09.CellLines", spec := "cellLines", inPlace := ["math/bits.Sub64", "math/bits.Add64"], unfollowed := true, recurses := true, apart := false, narrowed := true }
def CellLinesUptoSaid : Prop := cellLinesUptoRow.holds Try.pinned (OpenSpec.upto cellLinesSpec)

/-- 'cuboidlaw09.CellOrder', WHERE WHAT IT READS IS OF BULK AT MOST 1048576: true; the input reads as it did. -/
def cellOrderUptoRow : OpenClaim := { program := "ytcmejdkjfekoeaa", sum := "c28015d6ac55c31d028fe6c3e85c7030adbb73030785706a1b118d4b6a91eced", func := "cuboid/cuboidlaw09.CellOrder", spec := "cellOrder", inPlace := ["math/bits.Sub64", "math/bits.Add64"], unfollowed := true, recurses := true, apart := false, narrowed := true }
def CellOrderUptoSaid : Prop := cellOrderUptoRow.holds Try.pinned (OpenSpec.upto cellOrderSpec)

/-- 'cuboidlaw09.CellMean', WHERE WHAT IT READS IS OF BULK AT MOST 1048576: true; the input reads as it did. -/
def cellMeanUptoRow : OpenClaim := { program := "ytcmejdkjfekoeaa", sum := "c28015d6ac55c31d028fe6c3e85c7030adbb73030785706a1b118d4b6a91eced", func := "cuboid/cuboidlaw09.CellMean", spec := "cellMean", inPlace := ["math/bits.Sub64", "math/bits.Add64"], unfollowed := true, recurses := true, apart := false, narrowed := true }
def CellMeanUptoSaid : Prop := cellMeanUptoRow.holds Try.pinned (OpenSpec.upto cellMeanSpec)

/-- 'cuboidlaw09.CellSpoilt', WHERE WHAT IT READS IS OF BULK AT MOST 1048576: true; the input reads as it did. -/
def cellSpoiltUptoRow : OpenClaim := { program := "ytcmejdkjfekoeaa", sum := "c28015d6ac55c31d028fe6c3e85c7030adbb73030785706a1b118d4b6a91eced", func := "cuboid/cuboidlaw09.CellSpoilt", spec := "cellSpoilt", inPlace := ["math/bits.Sub64", "math/bits.Add64"], unfollowed := true, recurses := true, apart := false, narrowed := true }
def CellSpoiltUptoSaid : Prop := cellSpoiltUptoRow.holds Try.pinned (OpenSpec.upto cellSpoiltSpec)

/-- 'cuboidlaw10.DeltaTells', WHERE WHAT IT READS IS OF BULK AT MOST 1048576: true; the input reads as it did. -/
def deltaTellsUptoRow : OpenClaim := { program := "ytcmejdkjfekoeaa", sum := "c28015d6ac55c31d028fe6c3e85c7030adbb73030785706a1b118d4b6a91eced", func := "cuboid/cuboidlaw10.DeltaTells", spec := "deltaTells", inPlace := ["math/bits.Sub64", "math/bits.Add64"], unfollowed := true, recurses := true, apart := false, narrowed := true }
def DeltaTellsUptoSaid : Prop := deltaTellsUptoRow.holds Try.pinned (OpenSpec.upto deltaTellsSpec)

/-- 'cuboidlaw10.DeltaApplies', WHERE WHAT IT READS IS OF BULK AT MOST 1048576: true; the input reads as it did. -/
def deltaAppliesUptoRow : OpenClaim := { program := "ytcmejdkjfekoeaa", sum := "c28015d6ac55c31d028fe6c3e85c7030adbb73030785706a1b118d4b6a91eced", func := "cuboid/cuboidlaw10.DeltaApplies", spec := "deltaApplies", inPlace := ["math/bits.Sub64", "math/bits.Add64"], unfollowed := true, recurses := true, apart := false, narrowed := true }
def DeltaAppliesUptoSaid : Prop := deltaAppliesUptoRow.holds Try.pinned (OpenSpec.upto deltaAppliesSpec)

/-- 'cuboidlaw10.DeltaBack', WHERE WHAT IT READS IS OF BULK AT MOST 1048576: true; the input reads as it did. -/
def deltaBackUptoRow : OpenClaim := { program := "ytcmejdkjfekoeaa", sum := "c28015d6ac55c31d028fe6c3e85c7030adbb73030785706a1b118d4b6a91eced", func := "cuboid/cuboidlaw10.DeltaBack", spec := "deltaBack", inPlace := ["math/bits.Sub64", "math/bits.Add64"], unfollowed := true, recurses := true, apart := false, narrowed := true }
def DeltaBackUptoSaid : Prop := deltaBackUptoRow.holds Try.pinned (OpenSpec.upto deltaBackSpec)

/-- 'cuboidlaw10.DeltaRows', WHERE WHAT IT READS IS OF BULK AT MOST 1048576: true; the input reads as it did. -/
def deltaRowsUptoRow : OpenClaim := { program := "ytcmejdkjfekoeaa", sum := "c28015d6ac55c31d028fe6c3e85c7030adbb73030785706a1b118d4b6a91eced", func := "cuboid/cuboidlaw10.DeltaRows", spec := "deltaRows", inPlace := ["math/bits.Sub64", "math/bits.Add64"], unfollowed := true, recurses := true, apart := false, narrowed := true }
def DeltaRowsUptoSaid : Prop := deltaRowsUptoRow.holds Try.pinned (OpenSpec.upto deltaRowsSpec)

/-- 'cuboidlaw10.DeltaJoins', WHERE WHAT IT READS IS OF BULK AT MOST 1048576: true; the input reads as it did. -/
def deltaJoinsUptoRow : OpenClaim := { program := "ytcmejdkjfekoeaa", sum := "c28015d6ac55c31d028fe6c3e85c7030adbb73030785706a1b118d4b6a91eced", func := "cuboid/cuboidlaw10.DeltaJoins", spec := "deltaJoins", inPlace := ["math/bits.Sub64", "math/bits.Add64"], unfollowed := true, recurses := true, apart := false, narrowed := true }
def DeltaJoinsUptoSaid : Prop := deltaJoinsUptoRow.holds Try.pinned (OpenSpec.upto deltaJoinsSpec)

/-- 'cuboidlaw10.DeltaSpoilt', WHERE WHAT IT READS IS OF BULK AT MOST 1048576: true; the input reads as it did. -/
def deltaSpoiltUptoRow : OpenClaim := { program := "ytcmejdkjfekoeaa", sum := "c28015d6ac55c31d028fe6c3e85c7030adbb73030785706a1b118d4b6a91eced", func := "cuboid/cuboidlaw10.DeltaSpoilt", spec := "deltaSpoilt", inPlace := ["math/bits.Sub64", "math/bits.Add64"], unfollowed := true, recurses := true, apart := false, narrowed := true }
def DeltaSpoiltUptoSaid : Prop := deltaSpoiltUptoRow.holds Try.pinned (OpenSpec.upto deltaSpoiltSpec)

end Rows
end Go.Proofs.Ytcmejdkjfekoeaa

/- Part of the proof of DeltaRows: lemmas. -/
import Derived.Test.YtcmejdkjfekoeaaDRowsS5
set_option linter.unusedVariables false
set_option linter.unusedSimpArgs false
/-
  THE WALK OF A PLAIN CODE: variables in whose cells references may lie. My own work.
-/
namespace Go.Pl
set_option linter.unusedSimpArgs false
section
variable {C : CallP} {l : List POp} {s : PS} {K : PS → Prop} {d : Nat} {x y z : PO} {k : IntKind} {a b n m : Int}
end
section
variable {C : CallP} {s : PS} {K : Ex → PS → Prop} {p q : PCode}
end
end Go.Pl

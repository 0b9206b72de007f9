/-
  BAGS, PLAIN, the third part: one without the other. My own work.
-/
import Derived.Test.YtcmejdkjfekoeaaMBag2
namespace Go.Bag
open Go.Pl

def takeB (r : Run) (b : List Run) : Int × List Run :=
  match b with
  | s :: b' => if s.1 = r.1 then (r.2 - s.2, b') else (r.2, s :: b')
  | [] => (r.2, [])

def minusL : List Run → List Run → List Run → Option (List Run × List Run)
  | out, [], b => some (out, b)
  | out, r :: a, b => if (takeB r b).1 < 0 then none else minusL (if 0 < (takeB r b).1 then out ++ [(r.1, (takeB r b).1)] else out) a (takeB r b).2

def minus (a b : List Run) : List Run × Bool :=
  if good a = true ∧ good b = true then (match minusL [] a b with | some (o, []) => (o, true) | _ => ([], false)) else ([], false)
end Go.Bag

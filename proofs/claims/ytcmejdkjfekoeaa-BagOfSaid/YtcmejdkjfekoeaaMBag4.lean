/-
  BAGS, PLAIN, the fourth part: the document's laying of a value. My own work.
-/
import Derived.Test.YtcmejdkjfekoeaaMBag2
namespace Go.Bag
open Go.Pl

/-- a run that has something stays -/
def keepR (x : Run) : List Run := if x.2 ≠ 0 then [x] else []

def layB (v n : Int) : Bool → List Run → List Run × Bool
  | d, [] => ([], d)
  | d, x :: l =>
    if d = false ∧ v ≤ x.1 then
      (if v < x.1 then ([(v, n)] ++ (keepR x ++ (layB v n true l).1), (layB v n true l).2)
       else (keepR (x.1, x.2 + n) ++ (layB v n true l).1, (layB v n true l).2))
    else (keepR x ++ (layB v n d l).1, (layB v n d l).2)

def lay (l : List Run) (v n : Int) : List Run := if (layB v n false l).2 then (layB v n false l).1 else (layB v n false l).1 ++ [(v, n)]
end Go.Bag

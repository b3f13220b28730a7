/-
  What the engine reckons, as a contract.
-/
import Derived.Test.YthlebppdhipanaaSyR
import Derived.Test.YthlebppdhipanaaEvc
set_option linter.all false
namespace Go.Ev
open Go.Aw

/-- Is what is told a letter? -/
def isLit (v : Value) : Option (D × H) → Bool
  | some (d, _) => dEqb d (.lit v)
  | none => false

end Go.Ev

/-
  Whole numbers compared.
-/
import Derived.Test.YthlebppdhipanaaSyX
set_option linter.all false
namespace Go.Ev
end Go.Ev

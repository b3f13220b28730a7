/-
  Whole numbers compared.
-/
import Derived.Test.YthlebppdhipanaaSyX
set_option linter.all false
namespace Go.Ev
theorem int_beq (a b : Int) : (a == b) = decide (a = b) := by
  rw [Bool.eq_iff_iff]; simp
theorem int_bne (a b : Int) : (a != b) = !decide (a = b) := by
  rw [Bool.eq_iff_iff]; simp
end Go.Ev

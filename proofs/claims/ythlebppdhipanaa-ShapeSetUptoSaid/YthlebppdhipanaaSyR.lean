/-
  Texts compared.
-/
import Derived.Test.YthlebppdhipanaaSyQ
set_option linter.all false
namespace Go.Ev
open Go.Aw
theorem sB_eqb (a b : ByteArray) : (sB a == sB b) = decide (a = b) := by
  by_cases h : a = b
  · subst h; simp
  · have : ¬ sB a = sB b := by
      intro q
      apply h
      apply ByteArray.ext
      exact Array.toList_inj.mp q
    simp [h, this]
@[simp] theorem binS_eql (a b : ByteArray) : binS .eql a b = some (.bool (decide (a = b))) := by
  show some (Value.bool (sB a == sB b)) = _
  rw [sB_eqb]
@[simp] theorem binS_neq (a b : ByteArray) : binS .neq a b = some (.bool (!decide (a = b))) := by
  show some (Value.bool (!(sB a == sB b))) = _
  rw [sB_eqb]
@[simp] theorem binS_lss (a b : ByteArray) : binS .lss a b = some (.bool (Op.bytesLess (sB a) (sB b))) := rfl
@[simp] theorem binS_geq (a b : ByteArray) : binS .geq a b = some (.bool (!Op.bytesLess (sB a) (sB b))) := rfl
@[simp] theorem binS_leq (a b : ByteArray) : binS .leq a b = some (.bool (Op.bytesLess (sB a) (sB b) || decide (a = b))) := by
  show some (Value.bool (Op.bytesLess (sB a) (sB b) || sB a == sB b)) = _
  rw [sB_eqb]
@[simp] theorem binS_gtr (a b : ByteArray) : binS .gtr a b = some (.bool (!(Op.bytesLess (sB a) (sB b) || decide (a = b)))) := by
  show some (Value.bool (!(Op.bytesLess (sB a) (sB b) || sB a == sB b))) = _
  rw [sB_eqb]
end Go.Ev

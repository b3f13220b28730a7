/-
  RecheckNobody: a call, reckoned.
-/
import Derived.Test.YtgpmcnakeeahbabGreatQa
namespace Go.Proofs.YtgpmcnakeeahbabGreat
open Go.Ev
theorem c11 : chk (engT Tryz.prog (exT exL) (tab [q10]) 1000 120).1 q11 = true := by kernel_rfl
end Go.Proofs.YtgpmcnakeeahbabGreat

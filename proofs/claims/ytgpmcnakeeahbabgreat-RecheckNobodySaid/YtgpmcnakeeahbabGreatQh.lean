/-
  RecheckNobody: a call, reckoned.
-/
import Derived.Test.YtgpmcnakeeahbabGreatQa
namespace Go.Proofs.YtgpmcnakeeahbabGreat
open Go.Ev
theorem c7 : chk (engT Tryz.prog (exT exL) (tab [q6]) 1000 120).1 q7 = true := by kernel_rfl
end Go.Proofs.YtgpmcnakeeahbabGreat

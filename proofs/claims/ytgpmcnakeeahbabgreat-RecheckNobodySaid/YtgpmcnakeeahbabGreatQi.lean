/-
  RecheckNobody: a call, reckoned.
-/
import Derived.Test.YtgpmcnakeeahbabGreatQa
namespace Go.Proofs.YtgpmcnakeeahbabGreat
open Go.Ev
theorem c8 : chk (engT Tryz.prog (exT exL) (tab [q5, q7]) 1000 120).1 q8 = true := by kernel_rfl
end Go.Proofs.YtgpmcnakeeahbabGreat

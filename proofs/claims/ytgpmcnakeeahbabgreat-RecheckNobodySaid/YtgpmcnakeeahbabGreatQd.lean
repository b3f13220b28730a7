/-
  RecheckNobody: a call, reckoned.
-/
import Derived.Test.YtgpmcnakeeahbabGreatQa
namespace Go.Proofs.YtgpmcnakeeahbabGreat
open Go.Ev
theorem c3 : chk (engT Tryz.prog (exT exL) (tab [q2]) 1000 120).1 q3 = true := by kernel_rfl
end Go.Proofs.YtgpmcnakeeahbabGreat

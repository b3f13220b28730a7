/-
  RecheckNobody: a call, reckoned.
-/
import Derived.Test.YtgpmcnakeeahbabGreatQa
namespace Go.Proofs.YtgpmcnakeeahbabGreat
open Go.Ev
theorem c4 : chk (engT Tryz.prog (exT exL) (tab [q1, q3]) 1000 120).1 q4 = true := by kernel_rfl
end Go.Proofs.YtgpmcnakeeahbabGreat

/-
  RecheckNobody: a call, reckoned.
-/
import Derived.Test.YtgpmcnakeeahbabGreatQa
namespace Go.Proofs.YtgpmcnakeeahbabGreat
open Go.Ev
theorem c12 : chk (engT Tryz.prog (exT exL) (tab [q9, q11]) 1000 120).1 q12 = true := by kernel_rfl
end Go.Proofs.YtgpmcnakeeahbabGreat

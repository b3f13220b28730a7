/-
  RecheckNobody: a call, reckoned.
-/
import Derived.Test.YtgpmcnakeeahbabGreatQa
namespace Go.Proofs.YtgpmcnakeeahbabGreat
open Go.Ev
theorem c13 : chk (engT Tryz.prog (exT exL) (tab [q4, q8, q12]) 1000 120).1 q13 = true := by kernel_rfl
end Go.Proofs.YtgpmcnakeeahbabGreat

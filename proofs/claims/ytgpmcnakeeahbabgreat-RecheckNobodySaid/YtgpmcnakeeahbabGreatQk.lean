/-
  RecheckNobody: a call, reckoned.
-/
import Derived.Test.YtgpmcnakeeahbabGreatQa
namespace Go.Proofs.YtgpmcnakeeahbabGreat
open Go.Ev
theorem c10 : chk (engT Tryz.prog (exT exL) (tab []) 1000 120).1 q10 = true := by kernel_rfl
end Go.Proofs.YtgpmcnakeeahbabGreat

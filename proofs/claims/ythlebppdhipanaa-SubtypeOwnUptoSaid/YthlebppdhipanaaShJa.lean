/-
  Is a shape right? By kinds.
-/
import Derived.Test.YthlebppdhipanaaShJ
set_option linter.all false
namespace Go.Proofs.Ythlebppdhipanaa
open Go.Ev
open Go.Aw (tiOf fieldsOf sB)

set_option maxRecDepth 20000 in
theorem right6_ok (ns : List ByteArray) (l : List Sh) (hnl : ns.length ≤ 1000000) (hns : ∀ s ∈ ns, s.size ≤ 1000000) (ht : TbOk Try.prog (tbC 67 (anT fun m => m = l) (tbC 96 asT (tbC 98 rsT tb0)))) : FnO Try.prog 66 [.agg (rowS (.mk 6 ns l))] (.ret (.lit (.bool (rightS (.mk 6 ns l))))) := by
  have hA2 : anyF 95 l = !rightSs l := by rw [rightSs_any l]; simp [anyF]
  have hB : (ns.any fun s => !nameB s) = !(ns.all nameB) := by
    rw [List.all_eq_not_any_not]; simp
  refine fnO_wp ht fol Try.func66 rfl (by kernel_rfl) (by simp [Try.ntmps66]) (by kernel_rfl) fun I => ?_
  cases hR : rightSs l with
  | false =>
    simp -implicitDefEqProofs [Try.ntmps66, rowS, anT_eq, hA2, hR]
    exact seals_bool (by simp [rightS, hR])
  | true =>
    cases hNm : ns.all nameB with
    | false =>
      rw [hNm] at hB
      simp -implicitDefEqProofs [Try.ntmps66, rowS, anT_eq, asT_eq, rsT_eq, hA2, hnl, hB, hR]
      exact ⟨hns, seals_bool (by simp only [rightS, hR, hNm]; simp)⟩
    | true =>
      rw [hNm] at hB
      by_cases hq : l.length = ns.length
      · simp -implicitDefEqProofs [Try.ntmps66, rowS, anT_eq, asT_eq, rsT_eq, hA2, hnl, hB, hR, hq]
        exact ⟨hns, seals_bool (by simp only [rightS, hR, hNm, hq]; simp)⟩
      · have hq' : ((l.length : Int) == (ns.length : Int)) = false := by simp; omega
        simp -implicitDefEqProofs [Try.ntmps66, rowS, anT_eq, asT_eq, rsT_eq, hA2, hnl, hB, hR, hq, hq']
        exact ⟨hns, seals_bool (by simp only [rightS, hR, hNm, hq]; simp)⟩

set_option maxRecDepth 20000 in
theorem right7_ok (ns : List ByteArray) (l : List Sh) (ht : TbOk Try.prog (tbC 67 (anT fun m => m = l) (tbC 96 asT (tbC 98 rsT tb0)))) : FnO Try.prog 66 [.agg (rowS (.mk 7 ns l))] (.ret (.lit (.bool (rightS (.mk 7 ns l))))) := by
  have hA2 : anyF 95 l = !rightSs l := by rw [rightSs_any l]; simp [anyF]
  refine fnO_wp ht fol Try.func66 rfl (by kernel_rfl) (by simp [Try.ntmps66]) (by kernel_rfl) fun I => ?_
  by_cases hN : ns = []
  · subst hN
    cases hR : rightSs l with
    | false =>
      simp -implicitDefEqProofs [Try.ntmps66, rowS, anT_eq, hA2, hR]
      exact seals_bool (by simp [rightS, hR])
    | true =>
      simp -implicitDefEqProofs [Try.ntmps66, rowS, anT_eq, hA2, hR]
      exact seals_bool (by rw [Bool.eq_iff_iff]; simp [rightS, hR])
  · have h0 : 0 < ns.length := List.length_pos_iff.2 hN
    have h1 : (0 : Int) < (ns.length : Int) := by omega
    simp -implicitDefEqProofs [Try.ntmps66, rowS, anT_eq, hA2, h0]
    exact seals_bool (by simp [rightS, hN])



end Go.Proofs.Ythlebppdhipanaa

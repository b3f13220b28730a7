/-
  Is a shape right? By kinds.
-/
import Derived.Test.YthlebppdhipanaaShJ
set_option linter.all false
namespace Go.Proofs.Ythlebppdhipanaa
open Go.Ev
open Go.Aw (tiOf fieldsOf sB)

set_option maxRecDepth 20000 in
theorem right6_ok (ns : List ByteArray) (l : List Sh) (hnl : ns.length ≤ 1000000) (hns : ∀ s ∈ ns, s.size ≤ 1000000) (ht : TbOk Try.prog (tbC 67 (anT fun m => m = l) (tbC 96 asT (tbC 98 rsT tb0)))) : FnO Try.prog 66 [.agg (rowS (.mk 6 ns l))] (.ret (.lit (.bool (rightS (.mk 6 ns l))))) := by
  have hA2 : anyF 95 l = !rightSs l := by rw [rightSs_any l]; simp [anyF]
  have hB : (ns.any fun s => !nameB s) = !(ns.all nameB) := by
    rw [List.all_eq_not_any_not]; simp
  refine fnO_wp ht fol Try.func66 rfl (by kernel_rfl) (by simp [Try.ntmps66]) (by kernel_rfl) fun I => ?_
  cases hR : rightSs l with
  | false =>
    simp -implicitDefEqProofs [Try.ntmps66, rowS, anT_eq, hA2, hR]
    exact seals_bool (by simp [rightS, hR])
  | true =>
    cases hNm : ns.all nameB with
    | false =>
      rw [hNm] at hB
      simp -implicitDefEqProofs [Try.ntmps66, rowS, anT_eq, asT_eq, rsT_eq, hA2, hnl, hB, hR]
      exact ⟨hns, seals_bool (by simp only [rightS, hR, hNm]; simp)⟩
    | true =>
      rw [hNm] at hB
      by_cases hq : l.length = ns.length
      · simp -implicitDefEqProofs [Try.ntmps66, rowS, anT_eq, asT_eq, rsT_eq, hA2, hnl, hB, hR, hq]
        exact ⟨hns, seals_bool (by simp only [rightS, hR, hNm, hq]; simp)⟩
      · have hq' : ((l.length : Int) == (ns.length : Int)) = false := by simp; omega
        simp -implicitDefEqProofs [Try.ntmps66, rowS, anT_eq, asT_eq, rsT_eq, hA2, hnl, hB, hR, hq, hq']
        exact ⟨hns, seals_bool (by simp only [rightS, hR, hNm, hq]; simp)⟩

set_option maxRecDepth 20000 in
theorem right7_ok (ns : List ByteArray) (l : List Sh) (ht : TbOk Try.prog (tbC 67 (anT fun m => m = l) (tbC 96 asT (tbC 98 rsT tb0)))) : FnO Try.prog 66 [.agg (rowS (.mk 7 ns l))] (.ret (.lit (.bool (rightS (.mk 7 ns l))))) := by
  have hA2 : anyF 95 l = !rightSs l := by rw [rightSs_any l]; simp [anyF]
  refine fnO_wp ht fol Try.func66 rfl (by kernel_rfl) (by simp [Try.ntmps66]) (by kernel_rfl) fun I => ?_
  by_cases hN : ns = []
  · subst hN
    cases hR : rightSs l with
    | false =>
      simp -implicitDefEqProofs [Try.ntmps66, rowS, anT_eq, hA2, hR]
      exact seals_bool (by simp [rightS, hR])
    | true =>
      simp -implicitDefEqProofs [Try.ntmps66, rowS, anT_eq, hA2, hR]
      exact seals_bool (by rw [Bool.eq_iff_iff]; simp [rightS, hR])
  · have h0 : 0 < ns.length := List.length_pos_iff.2 hN
    have h1 : (0 : Int) < (ns.length : Int) := by omega
    simp -implicitDefEqProofs [Try.ntmps66, rowS, anT_eq, hA2, h0]
    exact seals_bool (by simp [rightS, hN])



end Go.Proofs.Ythlebppdhipanaa

/-
  Is a shape right? By kinds.
-/
namespace Go.Proofs.Ythlebppdhipanaa
open Go.Ev
open Go.Aw (tiOf fieldsOf sB)

set_option maxHeartbeats 2000000 in
set_option maxRecDepth 20000 in
theorem rightLow_ok (k : Int) (hk : 1 ≤ k ∧ k ≤ 5) (ns : List ByteArray) (l : List Sh) (ht : TbOk Try.prog (tbC 67 (anT fun m => m = l) (tbC 96 asT (tbC 98 rsT tb0)))) : FnO Try.prog 66 [.agg (rowS (.mk k ns l))] (.ret (.lit (.bool (rightS (.mk k ns l))))) := by
  have hA2 : anyF 95 l = !rightSs l := by rw [rightSs_any l]; simp [anyF]
  refine fnO_wp ht fol Try.func66 rfl (by kernel_rfl) (by simp [Try.ntmps66]) (by kernel_rfl) fun I => ?_
  have hk6 : ¬ k = 6 := by omega
  have hk6' : (k == 6) = false := by simpa using hk6
  have hk6n : (k != 6) = true := by simpa using hk6
  by_cases hN : ns = []
  · subst hN
    cases hR : rightSs l with
    | false =>
      simp -implicitDefEqProofs [Try.ntmps66, rowS, anT_eq, hA2, hR, hk6, hk6', hk6n]
      exact seals_bool (by simp [rightS, hR])
    | true =>
      have : k = 1 ∨ k = 2 ∨ k = 3 ∨ k = 4 ∨ k = 5 := by omega
      rcases this with rfl | rfl | rfl | rfl | rfl
      all_goals
        simp -implicitDefEqProofs [Try.ntmps66, rowS, anT_eq, hA2, hR]
        exact seals_bool (by rw [Bool.eq_iff_iff]; simp [rightS, hR])
  · have h0 : 0 < ns.length := List.length_pos_iff.2 hN
    simp -implicitDefEqProofs [Try.ntmps66, rowS, anT_eq, hA2, h0, hk6, hk6', hk6n]
    exact seals_bool (by simp [rightS, hN, hk6])

end Go.Proofs.Ythlebppdhipanaa

/-
  Is a shape right? By kinds.
-/
namespace Go.Proofs.Ythlebppdhipanaa
open Go.Ev
open Go.Aw (tiOf fieldsOf sB)

set_option maxHeartbeats 2000000 in
set_option maxRecDepth 20000 in
theorem rightNo_ok (k : Int) (hk : ¬ (1 ≤ k ∧ k ≤ 8)) (ns : List ByteArray) (l : List Sh) (ht : TbOk Try.prog (tbC 67 (anT fun m => m = l) (tbC 96 asT (tbC 98 rsT tb0)))) : FnO Try.prog 66 [.agg (rowS (.mk k ns l))] (.ret (.lit (.bool (rightS (.mk k ns l))))) := by
  have hA2 : anyF 95 l = !rightSs l := by rw [rightSs_any l]; simp [anyF]
  refine fnO_wp ht fol Try.func66 rfl (by kernel_rfl) (by simp [Try.ntmps66]) (by kernel_rfl) fun I => ?_
  have hk1 : ¬ k = 1 := by omega
  have hk2 : ¬ k = 2 := by omega
  have hk3 : ¬ k = 3 := by omega
  have hk4 : ¬ k = 4 := by omega
  have hk5 : ¬ k = 5 := by omega
  have hk6 : ¬ k = 6 := by omega
  have hk6' : (k == 6) = false := by simpa using hk6
  have hk6n : (k != 6) = true := by simpa using hk6
  have hk7 : ¬ k = 7 := by omega
  have hk8 : ¬ k = 8 := by omega
  have hk15 : ¬ (1 ≤ k ∧ k ≤ 5) := by omega
  by_cases hN : ns = []
  · subst hN
    cases hR : rightSs l with
    | false =>
      simp -implicitDefEqProofs [Try.ntmps66, rowS, anT_eq, hA2, hR, hk6, hk6', hk6n]
      exact seals_bool (by simp [rightS, hR])
    | true =>
      simp -implicitDefEqProofs [Try.ntmps66, rowS, anT_eq, hA2, hR, hk6', hk6n, hk1, hk2, hk3, hk4, hk5, hk6, hk7, hk8]
      exact seals_bool (by simp [rightS, hR, hk15, hk6, hk7, hk8])
  · have h0 : 0 < ns.length := List.length_pos_iff.2 hN
    simp -implicitDefEqProofs [Try.ntmps66, rowS, anT_eq, hA2, h0, hk6, hk6', hk6n]
    exact seals_bool (by simp [rightS, hN, hk6])

end Go.Proofs.Ythlebppdhipanaa

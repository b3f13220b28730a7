/-
  The document's: is a shape right?
-/
import Derived.Test.YthlebppdhipanaaShM
set_option linter.all false
namespace Go.Proofs.Ythlebppdhipanaa
open Go.Ev
open Go.Aw (tiOf fieldsOf sB)

/-! ### Nothing is anything -/
/-! ### Right -/
set_option maxHeartbeats 4000000 in
set_option maxRecDepth 10000 in
theorem rright6_ok (ns : List ByteArray) (l : List Sh) (hnl : ∀ n ∈ ns, n.size ≤ 1000000) (hl : l.length ≤ 1000) (ht : TbOk Try.prog (tbC 44 (shT (fun n => n ∈ l) (tbool rightS)) (tbC 64 (sT (fun s => s.size ≤ 1000000) nameB) (tbC 78 (shT (fun n => n ∈ l ∧ rightS n = true) (fun n => .lit (.string (txt n)))) tb0)))) : FnO Try.prog 44 [.agg (rowS (.mk 6 ns l))] (.ret (tbool rightS (.mk 6 ns l))) := by
  refine fnO_wx ht fol Try.func44 rfl (by kernel_rfl) (by simp [Try.ntmps44]) (by kernel_rfl) fun I => ?_
  by_cases hq : ns.length = l.length
  · have hq' : (ns.length : Int) = (l.length : Int) := by omega
    simp -implicitDefEqProofs [Try.ntmps44, rowS, hq']
    refine w_loop (fun i : { i : Nat // i ≤ l.length ∧ (∀ j (h : j < l.length), j < i → rightS l[j] = true ∧ nameB (ns[j]'(by omega)) = true) ∧ (∀ j (h : j + 1 < l.length), j + 1 < i → ltB (ns[j]'(by omega)) (ns[j + 1]'(by omega)) = true) } => S.mk 139 [(1, .pt 0 0), (2, .lit (.bool false)), (3, .lit (.int .i64 l.length)), (4, .lit (.int .i64 i.1))] [(0, .cells 25 none [.lit (.int .i64 6), .sq false 1 (strsD ns), .sq false 3 (rowsS l)])] 1 [] none []) (fun i => l.length - i.1) ⟨0, Nat.zero_le _, fun j _ h => by omega, fun j _ h => by omega⟩ (le_of [0] (by simp)) fun ⟨i, hi, hall, hris⟩ => wx_ok ht fol _ _ _ (by kernel_rfl) ?_
    have hw : IntKind.i64.wrap ((i : Int) + 1) = (i : Int) + 1 := wrap64 (by omega) (by omega)
    by_cases hil : i < l.length
    · have hin : i < ns.length := by omega
      have hm : l[i] ∈ l := List.getElem_mem hil
      have hsz := hnl ns[i] (List.getElem_mem hin)
      cases hR : rightS l[i] with
      | false =>
        simp -implicitDefEqProofs [hil, hin, hw, shT_eq, sT_eq, hm, tbool, hR, hsz]
        exact seals_bool (by
          have : rightSs l = false := by
            rw [rightSs_any, Bool.not_eq_false', List.any_eq_true]
            exact ⟨l[i], hm, by simp [hR]⟩
          simp only [rightS, this]; simp)
      | true =>
        cases hN : nameB ns[i] with
        | false =>
          simp -implicitDefEqProofs [hil, hin, hw, shT_eq, sT_eq, hm, tbool, hR, hN, hsz]
          exact seals_bool (by
            have : ns.all nameB = false := by
              rw [List.all_eq_false]
              exact ⟨ns[i], List.getElem_mem hin, by simp [hN]⟩
            simp only [rightS, this]; simp)
        | true =>
          by_cases h0 : i = 0
          · subst h0
            have hw1 : IntKind.i64.wrap 1 = 1 := rfl
            simp -implicitDefEqProofs [hil, hin, hw1, shT_eq, sT_eq, hm, tbool, hR, hN, hsz]
            refine ⟨1, le_of [0] (by simp), ⟨by omega, fun j hj h6 => ?_, fun j hj h6 => by omega⟩, by omega⟩
            have : j = 0 := by omega
            subst this
            exact ⟨hR, hN⟩
          · have h0' : 0 < i := by omega
            have hw3 : IntKind.i64.wrap ((i : Int) - 1) = ((i - 1 : Nat) : Int) := by rw [wrap64 (by omega) (by omega)]; omega
            have hin1 : i - 1 < ns.length := by omega
            have hin2 : i - 1 < l.length := by omega
            simp -implicitDefEqProofs [hil, hin, hin1, hin2, hw, hw3, h0', shT_eq, sT_eq, hm, tbool, hR, hN, hsz]
            refine ⟨fun h5 => seals_bool ?_, fun h5 => ⟨i + 1, le_of [0] (by simp), ⟨by omega, fun j hj h6 => ?_, fun j hj h6 => ?_⟩, by omega⟩⟩
            · have : risingB ns = false := rising_no (i := i - 1) (by omega) (by
                have e : i - 1 + 1 = i := by omega
                simp only [e]
                exact h5)
              simp only [rightS, this]; simp
            · by_cases h7 : j = i
              · subst h7; exact ⟨hR, hN⟩
              · exact hall j hj (by omega)
            · by_cases h7 : j + 1 = i
              · have e : j = i - 1 := by omega
                subst e
                have e : i - 1 + 1 = i := by omega
                simp only [e]
                exact h5
              · exact hris j hj (by omega)
    · have : i = l.length := by omega
      subst this
      simp -implicitDefEqProofs [shT_eq, tbool]
      have g1 : rightSs l = true := rightSs_all fun x hx => by
        obtain ⟨j, hj, rfl⟩ := List.mem_iff_getElem.1 hx
        exact (hall j hj hj).1
      have g2 : ns.all nameB = true := by
        rw [List.all_eq_true]
        intro x hx
        obtain ⟨j, hj, rfl⟩ := List.mem_iff_getElem.1 hx
        exact (hall j (by omega) (by omega)).2
      have g3 : risingB ns = true := rising_yes fun j hj => hris j (by omega) (by omega)
      exact seals_bool (by simp only [rightS, g1, g2, g3, hq]; simp)
  · have hq' : ((ns.length : Int) == (l.length : Int)) = false := by simp; omega
    have hq'' : ((ns.length : Int) != (l.length : Int)) = true := by simp; omega
    simp -implicitDefEqProofs [Try.ntmps44, rowS, hq', hq'']
    exact seals_bool (by
      have : ¬ l.length = ns.length := fun h => hq h.symm
      simp only [rightS]
      simp [this])

set_option maxHeartbeats 4000000 in
set_option maxRecDepth 10000 in
theorem rright7_ok (ns : List ByteArray) (l : List Sh) (hl : l.length ≤ 1000) (ht : TbOk Try.prog (tbC 44 (shT (fun n => n ∈ l) (tbool rightS)) (tbC 64 (sT (fun s => s.size ≤ 1000000) nameB) (tbC 78 (shT (fun n => n ∈ l ∧ rightS n = true) (fun n => .lit (.string (txt n)))) tb0)))) : FnO Try.prog 44 [.agg (rowS (.mk 7 ns l))] (.ret (tbool rightS (.mk 7 ns l))) := by
  refine fnO_wx ht fol Try.func44 rfl (by kernel_rfl) (by simp [Try.ntmps44]) (by kernel_rfl) fun I => ?_
  by_cases hq : ns = []
  · subst hq
    by_cases hl0 : 0 < l.length
    · have hl0' : ¬ (l.length : Int) < 1 := by omega
      simp -implicitDefEqProofs [Try.ntmps44, rowS, hl0, hl0']
      refine w_loop (fun i : { i : Nat // i ≤ l.length ∧ (∀ j (h : j < l.length), j < i → rightS l[j] = true) } => S.mk 139 [(1, .pt 0 0), (2, .lit (.bool false)), (3, .lit (.int .i64 l.length)), (4, .lit (.int .i64 i.1))] [(0, .cells 25 none [.lit (.int .i64 7), .sq false 1 [], .sq false 3 (rowsS l)])] 1 [] none []) (fun i => l.length - i.1) ⟨0, Nat.zero_le _, fun j _ h => by omega⟩ (le_of [0] (by simp [strsD])) fun ⟨i, hi, hall⟩ => wx_ok ht fol _ _ _ (by kernel_rfl) ?_
      have hw : IntKind.i64.wrap ((i : Int) + 1) = (i : Int) + 1 := wrap64 (by omega) (by omega)
      by_cases hil : i < l.length
      · have hm : l[i] ∈ l := List.getElem_mem hil
        cases hR : rightS l[i] with
        | false =>
          simp -implicitDefEqProofs [hil, hw, shT_eq, sT_eq, hm, tbool, hR]
          exact seals_bool (by
            have : rightSs l = false := by
              rw [rightSs_any, Bool.not_eq_false', List.any_eq_true]
              exact ⟨l[i], hm, by simp [hR]⟩
            simp only [rightS, this]; simp)
        | true =>
          simp -implicitDefEqProofs [hil, hw, shT_eq, sT_eq, hm, tbool, hR]
          refine ⟨i + 1, le_of [0] (by simp), ⟨by omega, fun j hj h6 => ?_⟩, by omega⟩
          by_cases h7 : j = i
          · subst h7; exact hR
          · exact hall j hj (by omega)
      · have : i = l.length := by omega
        subst this
        simp -implicitDefEqProofs [shT_eq, tbool]
        have g1 : rightSs l = true := rightSs_all fun x hx => by
          obtain ⟨j, hj, rfl⟩ := List.mem_iff_getElem.1 hx
          exact hall j hj hj
        exact seals_bool (by simp only [rightS, g1, hl0]; simp)
    · have hl1 : l = [] := List.length_eq_zero_iff.1 (by omega)
      subst hl1
      simp -implicitDefEqProofs [Try.ntmps44, rowS]
      exact seals_bool (by simp [rightS])
  · have h0 : 0 < ns.length := List.length_pos_iff.2 hq
    by_cases hl0 : 0 < l.length
    · have hl0' : ¬ (l.length : Int) < 1 := by omega
      simp -implicitDefEqProofs [Try.ntmps44, rowS, hl0, hl0', h0]
      exact seals_bool (by simp [rightS, hq])
    · have hl0' : (l.length : Int) < 1 := by omega
      simp -implicitDefEqProofs [Try.ntmps44, rowS, hl0, hl0']
      exact seals_bool (by simp [rightS, hq])
end Go.Proofs.Ythlebppdhipanaa

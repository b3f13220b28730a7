/-
  The document's: is a shape right? One of some; the others; all.
-/
import Derived.Test.YthlebppdhipanaaShO
import Derived.Test.YthlebppdhipanaaShN
set_option linter.all false
namespace Go.Proofs.Ythlebppdhipanaa
open Go.Ev
open Go.Aw (tiOf fieldsOf sB)

set_option maxHeartbeats 4000000 in
set_option maxRecDepth 10000 in
theorem rright8_ok (ns : List ByteArray) (l : List Sh) (hl : l.length ≤ 1000) (ht : TbOk Try.prog (tbC 44 (shT (fun n => n ∈ l) (tbool rightS)) (tbC 64 (sT (fun s => s.size ≤ 1000000) nameB) (tbC 78 (shT (fun n => n ∈ l ∧ rightS n = true) (fun n => .lit (.string (txt n)))) tb0)))) : FnO Try.prog 44 [.agg (rowS (.mk 8 ns l))] (.ret (tbool rightS (.mk 8 ns l))) := by
  refine fnO_wx ht fol Try.func44 rfl (by kernel_rfl) (by simp [Try.ntmps44]) (by kernel_rfl) fun I => ?_
  by_cases hq : ns = []
  · subst hq
    by_cases hl0 : 1 < l.length
    · have hl0' : ¬ (l.length : Int) < 2 := by omega
      have hl00 : 0 < l.length := by omega
      simp -implicitDefEqProofs [Try.ntmps44, rowS, hl0, hl0', hl00]
      refine w_loop (fun i : { i : Nat // i ≤ l.length ∧ (∀ j (h : j < l.length), j < i → rightS l[j] = true ∧ partedK l[j] = false) ∧ (∀ j (h : j + 1 < l.length), j + 1 < i → ltB (txt l[j]) (txt l[j + 1]) = true) } => S.mk 139 [(1, .pt 0 0), (2, .lit (.bool false)), (3, .lit (.int .i64 l.length)), (4, .lit (.int .i64 i.1))] [(0, .cells 25 none [.lit (.int .i64 8), .sq false 1 [], .sq false 3 (rowsS l)])] 1 [] none []) (fun i => l.length - i.1) ⟨0, Nat.zero_le _, fun j _ h => by omega, fun j _ h => by omega⟩ (le_of [0] (by simp [strsD])) fun ⟨i, hi, hall, hris⟩ => wx_ok ht fol _ _ _ (by kernel_rfl) ?_
      have hw : IntKind.i64.wrap ((i : Int) + 1) = (i : Int) + 1 := wrap64 (by omega) (by omega)
      by_cases hil : i < l.length
      · have hm : l[i] ∈ l := List.getElem_mem hil
        cases hR : rightS l[i] with
        | false =>
          simp -implicitDefEqProofs [hil, hw, shT_eq, sT_eq, hm, tbool, hR]
          exact seals_bool (by
            have : rightSs l = false := by
              rw [rightSs_any, Bool.not_eq_false', List.any_eq_true]
              exact ⟨l[i], hm, by simp [hR]⟩
            simp only [rightS, this]; simp)
        | true =>
          cases hP : partedK l[i] with
          | true =>
            have hPa : l.any partedK = true := List.any_eq_true.2 ⟨_, hm, hP⟩
            have hP' := hP
            simp only [partedK, Bool.or_eq_true, decide_eq_true_eq] at hP
            rcases hP with hP | hP
            · simp -implicitDefEqProofs [hil, hw, shT_eq, sT_eq, hm, tbool, hR, hP]
              exact seals_bool (by simp only [rightS, hPa]; simp)
            · have hP8 : ¬ l[i].kind = 8 := by omega
              have hP8b : (l[i].kind == 8) = false := by simpa using hP8
              simp -implicitDefEqProofs [hil, hw, shT_eq, sT_eq, hm, tbool, hR, hP, hP8b]
              exact seals_bool (by simp only [rightS, hPa]; simp)
          | false =>
            have hP' := hP
            simp only [partedK, Bool.or_eq_false_iff, decide_eq_false_iff_not] at hP
            obtain ⟨hP8, hP1⟩ := hP
            have hP8b : (l[i].kind == 8) = false := by simpa using hP8
            have hP1b : (l[i].kind == 1) = false := by simpa using hP1
            by_cases h0 : i = 0
            · subst h0
              have hw1 : IntKind.i64.wrap 1 = 1 := rfl
              simp -implicitDefEqProofs [hil, hw1, shT_eq, sT_eq, hm, tbool, hR, hP8b, hP1b]
              refine ⟨1, le_of [0] (by simp), ⟨by omega, fun j hj h6 => ?_, fun j hj h6 => by omega⟩, by omega⟩
              have : j = 0 := by omega
              subst this
              exact ⟨hR, hP'⟩
            · have h0' : 0 < i := by omega
              have hw3 : IntKind.i64.wrap ((i : Int) - 1) = ((i - 1 : Nat) : Int) := by rw [wrap64 (by omega) (by omega)]; omega
              have hin2 : i - 1 < l.length := by omega
              have hm2 : l[i - 1] ∈ l := List.getElem_mem hin2
              have hR2 := (hall (i - 1) hin2 (by omega)).1
              simp -implicitDefEqProofs [hil, hin2, hw, hw3, h0', shT_eq, sT_eq, hm, hm2, hR2, tbool, hR, hP8b, hP1b]
              refine ⟨fun h5 => seals_bool ?_, fun h5 => ⟨i + 1, le_of [0] (by simp), ⟨by omega, fun j hj h6 => ?_, fun j hj h6 => ?_⟩, by omega⟩⟩
              · have : risingB (l.map txt) = false := rising_no (i := i - 1) (by simp; omega) (by
                  have e : i - 1 + 1 = i := by omega
                  simp only [e, List.getElem_map]
                  exact h5)
                simp only [rightS, this]; simp
              · by_cases h7 : j = i
                · subst h7; exact ⟨hR, hP'⟩
                · exact hall j hj (by omega)
              · by_cases h7 : j + 1 = i
                · have e : j = i - 1 := by omega
                  subst e
                  have e : i - 1 + 1 = i := by omega
                  simp only [e]
                  exact h5
                · exact hris j hj (by omega)
      · have : i = l.length := by omega
        subst this
        simp -implicitDefEqProofs [shT_eq, tbool]
        have g1 : rightSs l = true := rightSs_all fun x hx => by
          obtain ⟨j, hj, rfl⟩ := List.mem_iff_getElem.1 hx
          exact (hall j hj hj).1
        have g2 : l.any partedK = false := by
          rw [List.any_eq_false]
          intro x hx
          obtain ⟨j, hj, rfl⟩ := List.mem_iff_getElem.1 hx
          simp [(hall j hj hj).2]
        have g3 : risingB (l.map txt) = true := rising_yes fun j hj => by
          simp only [List.getElem_map]
          exact hris j (by simpa using hj) (by simpa using hj)
        exact seals_bool (by simp only [rightS, g1, g2, g3, hl0]; simp)
    · have hl0' : (l.length : Int) < 2 := by omega
      simp -implicitDefEqProofs [Try.ntmps44, rowS, hl0']
      exact seals_bool (by simp only [rightS, hl0]; simp)
  · have h0 : 0 < ns.length := List.length_pos_iff.2 hq
    by_cases hl0 : 1 < l.length
    · have hl0' : ¬ (l.length : Int) < 2 := by omega
      simp -implicitDefEqProofs [Try.ntmps44, rowS, hl0, hl0', h0]
      exact seals_bool (by simp [rightS, hq])
    · have hl0' : (l.length : Int) < 2 := by omega
      simp -implicitDefEqProofs [Try.ntmps44, rowS, hl0, hl0']
      exact seals_bool (by simp [rightS, hq])

set_option maxHeartbeats 4000000 in
set_option maxRecDepth 10000 in
theorem rrightLow_ok (k : Int) (hk : 1 ≤ k ∧ k ≤ 5) (ns : List ByteArray) (l : List Sh) : FnO Try.prog 44 [.agg (rowS (.mk k ns l))] (.ret (tbool rightS (.mk k ns l))) := by
  have ht := tb0_ok Try.prog
  refine fnO_wx ht fol Try.func44 rfl (by kernel_rfl) (by simp [Try.ntmps44]) (by kernel_rfl) fun I => ?_
  have k1 : ¬ k < 1 := by omega
  have k2 : ¬ 8 < k := by omega
  have k3 : k < 6 := by omega
  have k4 : ¬ k = 6 := by omega
  have k5 : ¬ k = 7 := by omega
  have k6 : ¬ k = 8 := by omega
  have k4b : (k == 6) = false := by simpa using k4
  have k4c : (k != 6) = true := by simpa using k4
  have k5b : (k == 7) = false := by simpa using k5
  have k6b : (k == 8) = false := by simpa using k6
  by_cases hl0 : l = []
  · subst hl0
    by_cases hq : ns = []
    · subst hq
      simp -implicitDefEqProofs [Try.ntmps44, rowS, k1, k2, k3, k4, k5, k6, k4b, k4c, k5b, k6b]
      refine w_loop (fun i : { i : Nat // i = 0 } => S.mk 139 [(1, .pt 0 0), (2, .lit (.bool false)), (3, .lit (.int .i64 0)), (4, .lit (.int .i64 0))] [(0, .cells 25 none [.lit (.int .i64 k), .sq false 1 [], .sq false 3 []])] 1 [] none []) (fun i => i.1) ⟨0, rfl⟩ (le_of [0] (by simp [strsD, rowsS])) fun ⟨i, hi⟩ => wx_ok ht fol _ _ _ (by kernel_rfl) ?_
      simp -implicitDefEqProofs [tbool]
      exact seals_bool (by simp [rightS, hk, rightSs])
    · have h0 : 0 < ns.length := List.length_pos_iff.2 hq
      simp -implicitDefEqProofs [Try.ntmps44, rowS, k1, k2, k3, k4, k5, k6, k4b, k4c, k5b, k6b, h0]
      exact seals_bool (by simp [rightS, hq, k4])
  · have h0 : 0 < l.length := List.length_pos_iff.2 hl0
    simp -implicitDefEqProofs [Try.ntmps44, rowS, k1, k2, k3, k4, k5, k6, k4b, k4c, k5b, k6b, h0]
    exact seals_bool (by simp [rightS, hk, hl0])
set_option maxHeartbeats 4000000 in
set_option maxRecDepth 10000 in
theorem rrightNo_ok (k : Int) (hk : ¬ (1 ≤ k ∧ k ≤ 8)) (ns : List ByteArray) (l : List Sh) : FnO Try.prog 44 [.agg (rowS (.mk k ns l))] (.ret (tbool rightS (.mk k ns l))) := by
  have ht := tb0_ok Try.prog
  refine fnO_wx ht fol Try.func44 rfl (by kernel_rfl) (by simp [Try.ntmps44]) (by kernel_rfl) fun I => ?_
  have hr : rightS (.mk k ns l) = false := by
    cases h : rightS (.mk k ns l) with
    | false => rfl
    | true => exact absurd (right_kind h) (by simpa [Sh.kind] using hk)
  by_cases k1 : k < 1
  · simp -implicitDefEqProofs [Try.ntmps44, rowS, k1]
    exact seals_bool (by rw [hr])
  · have k2 : 8 < k := by omega
    simp -implicitDefEqProofs [Try.ntmps44, rowS, k1, k2]
    exact seals_bool (by rw [hr])

theorem rright_ok : ∀ s : Sh, limP s → FnO Try.prog 44 [.agg (rowS s)] (.ret (tbool rightS s))
  | .mk k ns l, hp => by
    have h1 := hp.1
    simp only [limS, Bool.and_eq_true, decide_eq_true_eq, List.all_eq_true] at h1
    obtain ⟨a1, a2, a3, a4⟩ := h1
    have ht := tbC_ok (P := Try.prog) (g := 44) (shT_ok (q := fun n => n ∈ l) (fun n hn => rright_ok n (limP_kid hp hn)) (tbool_bel _)) (tbC_ok (sT_ok (q := fun s => s.size ≤ 1000000) rname_ok) (tbC_ok (g := 78) (shT_ok (q := fun n => n ∈ l ∧ rightS n = true) (r := fun n => .lit (.string (txt n))) (fun n h => rtext_ok n (limP_kid hp h.1) h.2) (by simp)) (tb0_ok _)))
    by_cases hk : 1 ≤ k ∧ k ≤ 5
    · exact rrightLow_ok k hk ns l
    · by_cases h6 : k = 6
      · subst h6; exact rright6_ok ns l (fun n hn => by have := a2 n hn; omega) a3 ht
      · by_cases h7 : k = 7
        · subst h7; exact rright7_ok ns l a3 ht
        · by_cases h8 : k = 8
          · subst h8; exact rright8_ok ns l a3 ht
          · exact rrightNo_ok k (by omega) ns l
termination_by s => SizeOf.sizeOf s
decreasing_by
  have := List.sizeOf_lt_of_mem hn
  simp
  omega

set_option maxRecDepth 10000 in
theorem rgood_ok (s : Sh) (h : limP s) : FnO Try.prog 19 [.agg (rowS s)] (.ret (tbool goodS s)) := by
  have ht := tbC_ok (P := Try.prog) (g := 37) (shIT_ok (q := fun n i => -100000 ≤ i ∧ i ≤ 100000) (r := fun n i => .lit (.int .i64 (partsR n i))) (fun n i h => partsR_ok n i h.1 h.2) (by simp)) (tbC_ok (g := 44) (shT_ok rright_ok (tbool_bel _)) (tb0_ok _))
  refine fnO_wx ht fol Try.func19 rfl (by kernel_rfl) (by simp [Try.ntmps19]) (by kernel_rfl) fun I => ?_
  by_cases hF : sz s ≤ 512
  · have h3 : partsR s 512 ≤ 512 := by unfold partsR; omega
    simp -implicitDefEqProofs [Try.ntmps19, shT_eq, shIT_eq, tbool, h3, h]
    exact seals_bool (by simp [goodS, hF])
  · have h3 : ¬ partsR s 512 ≤ 512 := by unfold partsR; omega
    simp -implicitDefEqProofs [Try.ntmps19, shT_eq, shIT_eq, tbool, h3, h]
    exact seals_bool (by simp [goodS, hF])

def staticG (s : Sh) : Bool := goodS s && staticS s
end Go.Proofs.Ythlebppdhipanaa

/-
  Is a shape right? One of some; all kinds.
-/
import Derived.Test.YthlebppdhipanaaShJx
set_option linter.all false
namespace Go.Proofs.Ythlebppdhipanaa
open Go.Ev
open Go.Aw (tiOf fieldsOf sB)

set_option maxHeartbeats 2000000 in
set_option maxRecDepth 20000 in
theorem right8_ok (ns : List ByteArray) (l : List Sh) (hl : l.length ≤ 1000) (ht : TbOk Try.prog (tbC 67 (anT fun m => m = l) (tbC 98 rsT (tbC 81 (tsT fun m => m = l ∧ rightSs m = true) tb0)))) : FnO Try.prog 66 [.agg (rowS (.mk 8 ns l))] (.ret (.lit (.bool (rightS (.mk 8 ns l))))) := by
  have hA2 : anyF 95 l = !rightSs l := by rw [rightSs_any l]; simp [anyF]
  have hA3 : anyF 99 l = l.any partedK := by simp [anyF]
  have hl6 : l.length ≤ 1000000 := by omega
  refine fnO_wp ht fol Try.func66 rfl (by kernel_rfl) (by simp [Try.ntmps66]) (by kernel_rfl) fun I => ?_
  by_cases hN : ns = []
  · subst hN
    cases hR : rightSs l with
    | false =>
      simp -implicitDefEqProofs [Try.ntmps66, rowS, anT_eq, hA2, hR]
      exact seals_bool (by simp [rightS, hR])
    | true =>
      by_cases h1 : 1 < l.length
      · cases hP : l.any partedK with
        | true =>
          have h1' : (1 : Int) < (l.length : Int) := by omega
          simp -implicitDefEqProofs [Try.ntmps66, rowS, anT_eq, tsT_eq, rsT_eq, hA2, hA3, hR, hP, h1, h1', hl6]
          exact seals_bool (by simp only [rightS, hR, hP]; simp)
        | false =>
          have h1' : (1 : Int) < (l.length : Int) := by omega
          simp -implicitDefEqProofs [Try.ntmps66, rowS, anT_eq, tsT_eq, rsT_eq, hA2, hA3, hR, hP, h1, h1', hl6]
          exact seals_bool (by simp only [rightS, hR, hP]; simp [h1])
      · have h1' : ¬ (1 : Int) < (l.length : Int) := by omega
        simp -implicitDefEqProofs [Try.ntmps66, rowS, anT_eq, tsT_eq, rsT_eq, hA2, hA3, hR, h1, h1', hl6]
        exact seals_bool (by simp only [rightS, hR]; simp [h1])
  · have h0 : 0 < ns.length := List.length_pos_iff.2 hN
    simp -implicitDefEqProofs [Try.ntmps66, rowS, anT_eq, hA2, h0]
    exact seals_bool (by simp [rightS, hN])

theorem right_ok : ∀ s : Sh, limS s = true → (partsL s).length ≤ 1000000 → FnO Try.prog 66 [.agg (rowS s)] (.ret (.lit (.bool (rightS s))))
  | .mk k ns l, h, hp => by
    simp only [limS, Bool.and_eq_true, decide_eq_true_eq, List.all_eq_true] at h
    obtain ⟨a1, a2, a3, a4⟩ := h
    have hpl : (partsLs l).length ≤ 1000000 := by rw [partsL, List.length_cons] at hp; omega
    have h66 : ∀ n, n ∈ l → FnO Try.prog 66 [.agg (rowS n)] (.ret (.lit (.bool (rightS n)))) := fun n hn => right_ok n (limSs_mem a4 n hn) (by have := partsLs_mem hn; omega)
    have t1 : TakOk 95 [] (fun n => n ∈ l) (fun n => !rightS n) := ⟨by simp, fun n hn => right1_ok _ h66 n hn⟩
    have t2 : TakOk 99 [] (fun n => n ∈ l) partedK := ⟨by simp, fun n _ => right3_ok n⟩
    have t3 : TasOk 97 [] (fun s => s.size ≤ 1000000) (fun s => !nameB s) := ⟨by simp, fun s hs => right2_ok s hs⟩
    have h67 : ∀ xs p d, anT (fun m => m = l) xs = some (p, d) → p → FnO Try.prog 67 xs (.ret d) ∧ D.belL 0 xs = true ∧ D.bel 0 d = true := ctr_ok fun p hp => ⟨by
        obtain ⟨m, g⟩ := p
        obtain ⟨hg, hm⟩ := hp
        simp only at hg hm
        subst hm
        have hml : m.length ≤ 1000000 := by omega
        rcases hg with rfl | rfl
        · exact contains_ok t1 m hml fun n hn => hn
        · exact contains_ok t2 m hml fun n hn => hn, by simp, by simp⟩
    have ht98 := tbC_ok (P := Try.prog) (g := 98) (f := rsT) (ctr_ok fun m hm => ⟨rising_ok false m hm, by simp, by simp⟩) (tb0_ok _)
    have ht := tbC_ok h67 (tbC_ok (g := 96) (f := asT) (ctr_ok fun m hm => ⟨containsS_ok t3 m hm.1 hm.2, by simp, by simp⟩) ht98)
    have hns : ∀ s ∈ ns, s.size ≤ 1000000 := fun s hs => by have := a2 s hs; omega
    have hnl : ns.length ≤ 1000000 := by omega
    by_cases hk : 1 ≤ k ∧ k ≤ 5
    · exact rightLow_ok k hk ns l ht
    · by_cases h6 : k = 6
      · subst h6; exact right6_ok ns l hnl hns ht
      · by_cases h7 : k = 7
        · subst h7; exact right7_ok ns l ht
        · by_cases h8 : k = 8
          · subst h8
            refine right8_ok ns l a3 (tbC_ok h67 (tbC_ok (g := 98) (f := rsT) (ctr_ok fun m hm => ⟨rising_ok false m hm, by simp, by simp⟩) (tbC_ok (g := 81) (ctr_ok fun m hm => ⟨?_, by simp, by simp⟩) (tb0_ok _))))
            obtain ⟨rfl, hR⟩ := hm
            refine texts_ok (fun n => n ∈ m) (fun n hn => text_ok n ?_ (by have := partsLs_mem hn; omega)) false m a3 fun n hn => hn
            exact okTs_mem (right_okTs m a4 hR) n hn
          · exact rightNo_ok k (by omega) ns l ht
termination_by s => SizeOf.sizeOf s
decreasing_by
  have := List.sizeOf_lt_of_mem hn
  simp
  omega
end Go.Proofs.Ythlebppdhipanaa

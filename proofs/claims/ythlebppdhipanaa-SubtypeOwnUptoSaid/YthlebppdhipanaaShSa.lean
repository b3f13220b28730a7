/-
  Numbers' digits, as they are reckoned.
-/
import Derived.Test.YthlebppdhipanaaShQ
import Derived.Test.YthlebppdhipanaaSyS
import Derived.Test.YthlebppdhipanaaSyY
set_option linter.all false
namespace Go.Proofs.Ythlebppdhipanaa
open Go.Ev
open Go.Aw (tiOf fieldsOf sB)
/-! ### Numbers -/
def exL : List (FuncId × XK) := []
theorem ex_ok : ∀ p ∈ exL, ExtOk Try.prog p.1 p.2 := by
  intro p hp
  simp [exL] at hp
noncomputable def cntC (n : Nat) : Bool := isD (.lit (.string (bA (decF 0 n)))) ((eng Try.prog (exT exL) (drawE Try.prog) 1000 60).1 131 [.lit (.int .i64 (n : Int))] { hp := .e, nx := 0 })
theorem cnt_all : ((List.range 10).all cntC) = true := by kernel_rfl
theorem count0_ok (n : Nat) (h : n < 10) : FnO Try.prog 131 [.lit (.int .i64 (n : Int))] (.ret (.lit (.string (bA (decF 0 n))))) :=
  fnO_of_engD (eng_sound (exT_ok exL ex_ok) 1000 60) (by kernel_rfl) (by simp) ((List.all_eq_true.1 cnt_all) n (List.mem_range.2 (by omega)))
noncomputable def cnT (q : Nat → Prop) (r : Nat → List UInt8) : List D → Option (Prop × D) := ctr (fun n : Nat => [.lit (.int .i64 (n : Int))]) q (fun n => .lit (.string (bA (r n))))
theorem cnT_eq (q : Nat → Prop) (r : Nat → List UInt8) (n : Nat) : cnT q r [.lit (.int .i64 (n : Int))] = some (q n, .lit (.string (bA (r n)))) := ctr_enc (fun a b h => by simp at h; omega) n
theorem decF_low (f n : Nat) (h : n < 10) : decF f n = decF 0 n := by
  cases f with
  | zero => rfl
  | succ f => simp [decF, h]
theorem decF_len : ∀ (f n : Nat), (decF f n).length ≤ f + 1
  | 0, n => by simp [decF]
  | f + 1, n => by
    have := decF_len f (n / 10)
    unfold decF
    split
    · simp
    · simp; omega
set_option maxHeartbeats 1000000 in
set_option maxRecDepth 10000 in
theorem countF_ok : ∀ (f n : Nat), f ≤ 10 → n < 10 ^ (f + 1) → FnO Try.prog 131 [.lit (.int .i64 (n : Int))] (.ret (.lit (.string (bA (decF f n)))))
  | 0, n, _, h => count0_ok n (by simpa using h)
  | f + 1, n, hf, h => by
    by_cases hn : n < 10
    · rw [decF_low _ _ hn]
      exact count0_ok n hn
    · obtain ⟨q, hq⟩ : ∃ q, q = n / 10 := ⟨_, rfl⟩
      obtain ⟨r, hr⟩ : ∃ r, r = n % 10 := ⟨_, rfl⟩
      have hq1 : q < 10 ^ (f + 1) := by rw [Nat.pow_succ] at h; omega
      have ht := tbC_ok (P := Try.prog) (g := 131) (f := cnT (fun m => m = q ∨ m = r) (decF f)) (ctr_ok fun m hm => ⟨by
          rcases hm with rfl | rfl
          · exact countF_ok f _ (by omega) hq1
          · rw [decF_low _ _ (by omega)]
            exact count0_ok _ (by omega), by simp, by simp⟩) (tb0_ok _)
      refine fnO_wx ht fol Try.func131 rfl (by kernel_rfl) (by simp [Try.ntmps131]) (by kernel_rfl) fun I => ?_
      have hbig : (10 : Nat) ^ (f + 1 + 1) ≤ 10 ^ 12 := Nat.pow_le_pow_right (by omega) (by omega)
      have e1 : IntKind.i64.wrap ((n : Int) / 10) = (q : Int) := by rw [wrap64 (by omega) (by omega)]; omega
      have e2 : (n : Int) % 10 = (r : Int) := by omega
      have e2' : (n : Int).tmod 10 = (r : Int) := by rw [Int.tmod_eq_emod_of_nonneg (by omega)]; exact e2
      have hn' : ¬ (n : Int) < 10 := by omega
      have l1 := decF_len f q
      have l2 := decF_len f r
      have e3 : bA (decF (f + 1) n) = ⟨(decF f q ++ decF f r).toArray⟩ := by
        rw [decF, if_neg hn, ← hq, ← hr, decF_low f r (by omega)]; rfl
      simp -implicitDefEqProofs [Try.ntmps131, e1, e2, e2', hn', cnT_eq]
      rw [e3]
      exact ⟨by omega, .same _ (by simp)⟩
theorem count_ok (n : Nat) (h : n ≤ 1000) : FnO Try.prog 131 [.lit (.int .i64 (n : Int))] (.ret (.lit (.string (decB n)))) := countF_ok 3 n (by omega) (by omega)
end Go.Proofs.Ythlebppdhipanaa

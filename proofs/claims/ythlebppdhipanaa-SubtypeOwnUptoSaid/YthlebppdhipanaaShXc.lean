/-
  The law on three shapes: the walk.
-/
import Derived.Test.YthlebppdhipanaaShV
set_option linter.all false
namespace Go.Proofs.Ythlebppdhipanaa
open Go.Ev
open Go.Aw (tiOf fieldsOf sB)

noncomputable def tCo (d : D) : List D → Option (Prop × D) := ctr (fun _ : Unit => []) (fun _ => True) (fun _ => d)
theorem tCo_eq (d : D) : tCo d [] = some (True, d) := ctr_enc (fun _ _ _ => rfl) ()

noncomputable def tb3 : Tb := tbC 10 (shT (fun _ => True) (tbool lightS)) (tbC 11 (shT limP (tbool staticG)) (tbC 12 (tCo (.lit (.bool true))) (tbC 13 (sh2T (fun a b => limP a ∧ limP b ∧ sz a + sz b ≤ 2000) (fun a b => .lit (.bool (fitsG a b)))) tb0)))
theorem tb3_ok : TbOk Try.prog tb3 := by
  refine tbC_ok (shT_ok (fun n _ => light_ok n) (tbool_bel _)) ?_
  refine tbC_ok (shT_ok staticT_ok (tbool_bel _)) ?_
  refine tbC_ok (ctr_ok fun _ _ => ⟨lives_ok, by simp, by simp⟩) ?_
  exact tbC_ok (sh2T_ok (fun a b h => fitsT_ok a b h.1 h.2.1 h.2.2) (by simp)) (tb0_ok _)

theorem fitsG_trans {a b c : Sh} (sa : staticG a = true) (sb : staticG b = true) (sc : staticG c = true) (h1 : fitsG a b = true) (h2 : fitsG b c = true) : fitsG a c = true := by
  simp only [fitsG, staticG, goodS, Bool.and_eq_true] at *
  exact ⟨sa.1, sc.1, fits_trans _ a b c (Nat.le_refl _) sa.1.2 sb.1.2 sc.1.2 sa.2 sb.2 sc.2 h1.2.2 h2.2.2⟩

set_option maxHeartbeats 4000000 in
set_option maxRecDepth 20000 in
theorem law3_ok (a b c : Sh) : FnO Try.prog 3 [.agg (rowS a), .agg (rowS b), .agg (rowS c)] (.ret (.lit (.bool true))) := by
  have ht := tb3_ok
  unfold tb3 at ht
  refine fnO_wx ht fol Try.func3 rfl (by kernel_rfl) (by simp [Try.ntmps3]) (by kernel_rfl) fun I => ?_
  cases la : lightS a with
  | false =>
    simp -implicitDefEqProofs [Try.ntmps3, shT_eq, tCo_eq, tbool, la]
    exact .same _ (by simp)
  | true =>
  cases lb : lightS b with
  | false =>
    simp -implicitDefEqProofs [Try.ntmps3, shT_eq, tCo_eq, tbool, la, lb]
    exact .same _ (by simp)
  | true =>
  cases lc : lightS c with
  | false =>
    simp -implicitDefEqProofs [Try.ntmps3, shT_eq, tCo_eq, tbool, la, lb, lc]
    exact .same _ (by simp)
  | true =>
  have pa := light_limP la
  have pb := light_limP lb
  have pc := light_limP lc
  have za := light_sz la
  have zb := light_sz lb
  have zc := light_sz lc
  cases sa : staticG a with
  | false =>
    simp -implicitDefEqProofs [Try.ntmps3, shT_eq, tCo_eq, tbool, la, lb, lc, pa, sa]
    exact .same _ (by simp)
  | true =>
  cases sb : staticG b with
  | false =>
    simp -implicitDefEqProofs [Try.ntmps3, shT_eq, tCo_eq, tbool, la, lb, lc, pa, pb, sa, sb]
    exact .same _ (by simp)
  | true =>
  cases sc : staticG c with
  | false =>
    simp -implicitDefEqProofs [Try.ntmps3, shT_eq, tCo_eq, tbool, la, lb, lc, pa, pb, pc, sa, sb, sc]
    exact .same _ (by simp)
  | true =>
  have z1 : sz a + sz b ≤ 2000 := by omega
  have z2 : sz b + sz c ≤ 2000 := by omega
  have z3 : sz a + sz c ≤ 2000 := by omega
  cases h1 : fitsG a b with
  | false =>
    simp -implicitDefEqProofs [Try.ntmps3, shT_eq, sh2T_eq, tCo_eq, tbool, la, lb, lc, pa, pb, pc, sa, sb, sc, h1, z1]
    exact .same _ (by simp)
  | true =>
  cases h2 : fitsG b c with
  | false =>
    simp -implicitDefEqProofs [Try.ntmps3, shT_eq, sh2T_eq, tCo_eq, tbool, la, lb, lc, pa, pb, pc, sa, sb, sc, h1, h2, z1, z2]
    exact .same _ (by simp)
  | true =>
    have h3 := fitsG_trans sa sb sc h1 h2
    simp -implicitDefEqProofs [Try.ntmps3, shT_eq, sh2T_eq, tCo_eq, tbool, la, lb, lc, pa, pb, pc, sa, sb, sc, h1, h2, h3, z1, z2, z3]
    exact .same _ (by simp)
end Go.Proofs.Ythlebppdhipanaa

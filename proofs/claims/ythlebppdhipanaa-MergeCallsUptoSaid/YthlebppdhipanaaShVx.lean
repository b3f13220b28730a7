/-
  What fits: of good shapes; the chapter's example.
-/
import Derived.Test.YthlebppdhipanaaShU
import Derived.Test.YthlebppdhipanaaSyJn
set_option linter.all false
namespace Go.Proofs.Ythlebppdhipanaa
open Go.Ev
open Go.Aw (tiOf fieldsOf sB)

def fitsG (a b : Sh) : Bool := goodS a && (goodS b && fitsS a b)
theorem good_right {a : Sh} (h : goodS a = true) : rightS a = true := by
  simp only [goodS, Bool.and_eq_true] at h
  exact h.2
set_option maxHeartbeats 1000000 in
set_option maxRecDepth 10000 in
theorem fitsT_ok (a b : Sh) (la : limP a) (lb : limP b) (hs : sz a + sz b ≤ 2000) : FnO Try.prog 13 [.agg (rowS a), .agg (rowS b)] (.ret (.lit (.bool (fitsG a b)))) := by
  have ht := tbC_ok (shT_ok good_ok (tbool_bel _)) (tbC_ok (g := 40) (sh2T_ok (q := fun x y => x = a ∧ y = b ∧ rightS a = true ∧ rightS b = true) (r := fun x y => .lit (.bool (fitsN 2000 x y))) (fun x y h => by
    obtain ⟨rfl, rfl, h1, h2⟩ := h
    exact fits_ok 2000 x y h1 h2 la lb hs) (by simp)) (tb0_ok _))
  refine fnO_wx ht fol Try.func13 rfl (by kernel_rfl) (by simp [Try.ntmps13]) (by kernel_rfl) fun I => ?_
  cases ga : goodS a with
  | false =>
    simp -implicitDefEqProofs [Try.ntmps13, shT_eq, tbool, ga, la]
    exact seals_bool (by simp [fitsG, ga])
  | true =>
  cases gb : goodS b with
  | false =>
    simp -implicitDefEqProofs [Try.ntmps13, shT_eq, tbool, ga, gb, la, lb]
    exact seals_bool (by simp [fitsG, ga, gb])
  | true =>
    have ra := good_right ga
    have rb := good_right gb
    simp -implicitDefEqProofs [Try.ntmps13, shT_eq, sh2T_eq, tbool, ga, gb, la, lb, ra, rb]
    exact seals_bool (by simp [fitsG, ga, gb, fitsN_eq ra rb hs])

/-! ### The example -/
end Go.Proofs.Ythlebppdhipanaa

/-
  The law on three shapes: the walk.
-/
namespace Go.Proofs.Ythlebppdhipanaa
open Go.Ev
open Go.Aw (tiOf fieldsOf sB)

noncomputable def tCo (d : D) : List D → Option (Prop × D) := ctr (fun _ : Unit => []) (fun _ => True) (fun _ => d)
theorem tCo_eq (d : D) : tCo d [] = some (True, d) := ctr_enc (fun _ _ _ => rfl) ()

noncomputable def tb3 : Tb := tbC 10 (shT (fun _ => True) (tbool lightS)) (tbC 11 (shT limP (tbool staticG)) (tbC 12 (tCo (.lit (.bool true))) (tbC 13 (sh2T (fun a b => limP a ∧ limP b ∧ sz a + sz b ≤ 2000) (fun a b => .lit (.bool (fitsG a b)))) tb0)))
end Go.Proofs.Ythlebppdhipanaa

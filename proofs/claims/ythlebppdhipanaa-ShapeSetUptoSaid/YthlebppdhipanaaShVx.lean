/-
  What fits: of good shapes; the chapter's example.
-/
import Derived.Test.YthlebppdhipanaaShU
import Derived.Test.YthlebppdhipanaaSyJn
set_option linter.all false
namespace Go.Proofs.Ythlebppdhipanaa
open Go.Ev
open Go.Aw (tiOf fieldsOf sB)

def fitsG (a b : Sh) : Bool := goodS a && (goodS b && fitsS a b)
theorem good_right {a : Sh} (h : goodS a = true) : rightS a = true := by
  simp only [goodS, Bool.and_eq_true] at h
  exact h.2
/-! ### The example -/
theorem joinJ (xs : List ByteArray) (sep : ByteArray) (h1 : xs.length ≤ 1000) (h2 : (jnB0 xs sep).size ≤ 1000000) : FnO Try.prog 75 [.sq false 1 (strsD xs), .lit (.string sep)] (.ret (.lit (.string (jnB0 xs sep)))) :=
  join_ok false xs sep (by omega) (by have : joinB xs sep = jnB0 xs sep := rfl; rw [this]; omega)
end Go.Proofs.Ythlebppdhipanaa

/-
  The law on three shapes: the walk.
-/
namespace Go.Proofs.Ythlebppdhipanaa
open Go.Ev
open Go.Aw (tiOf fieldsOf sB)

noncomputable def tCo (d : D) : List D → Option (Prop × D) := ctr (fun _ : Unit => []) (fun _ => True) (fun _ => d)
theorem tCo_eq (d : D) : tCo d [] = some (True, d) := ctr_enc (fun _ _ _ => rfl) ()

noncomputable def tb3 : Tb := tbC 10 (shT (fun _ => True) (tbool lightS)) (tbC 11 (shT limP (tbool staticG)) (tbC 12 (tCo (.lit (.bool true))) (tbC 13 (sh2T (fun a b => limP a ∧ limP b ∧ sz a + sz b ≤ 2000) (fun a b => .lit (.bool (fitsG a b)))) tb0)))
end Go.Proofs.Ythlebppdhipanaa

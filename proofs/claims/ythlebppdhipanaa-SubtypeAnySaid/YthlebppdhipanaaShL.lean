/-
  Is a shape good; its text.
-/
import Derived.Test.YthlebppdhipanaaShP
import Derived.Test.YthlebppdhipanaaSyX
set_option linter.all false
namespace Go.Proofs.Ythlebppdhipanaa
open Go.Ev
open Go.Aw (tiOf fieldsOf sB)

@[simp] theorem uk3 : ukOf Try.prog 3 = .oth := by kernel_rfl
@[simp] theorem uk4 : ukOf Try.prog 4 = .bool := by kernel_rfl
@[simp] theorem uk5 : ukOf Try.prog 5 = .oth := by kernel_rfl
@[simp] theorem uk9 : ukOf Try.prog 9 = .oth := by kernel_rfl
@[simp] theorem uk25 : ukOf Try.prog 25 = .oth := by kernel_rfl

/-! ### Tables on shapes -/
noncomputable def shT (q : Sh → Prop) (r : Sh → D) : List D → Option (Prop × D) := ctr (fun n : Sh => [.agg (rowS n)]) q r
theorem shT_eq (q : Sh → Prop) (r : Sh → D) (n : Sh) : shT q r [.agg (rowS n)] = some (q n, r n) := ctr_enc (fun a b h => by simp at h; exact rowS_inj _ _ h) n
theorem shT_ok {g : FuncId} {q : Sh → Prop} {r : Sh → D} (h : ∀ n, q n → FnO Try.prog g [.agg (rowS n)] (.ret (r n))) (hb : ∀ n, D.bel 0 (r n) = true) : ∀ xs p d, shT q r xs = some (p, d) → p → FnO Try.prog g xs (.ret d) ∧ D.belL 0 xs = true ∧ D.bel 0 d = true :=
  ctr_ok fun n hn => ⟨h n hn, by simp, hb n⟩
noncomputable def shIT (q : Sh → Int → Prop) (r : Sh → Int → D) : List D → Option (Prop × D) := ctr (fun p : Sh × Int => [.agg (rowS p.1), .lit (.int .i64 p.2)]) (fun p => q p.1 p.2) (fun p => r p.1 p.2)
theorem shIT_eq (q : Sh → Int → Prop) (r : Sh → Int → D) (n : Sh) (i : Int) : shIT q r [.agg (rowS n), .lit (.int .i64 i)] = some (q n i, r n i) := ctr_enc (fun a b h => by simp at h; exact Prod.ext (rowS_inj _ _ h.1) h.2) (n, i)
theorem shIT_ok {g : FuncId} {q : Sh → Int → Prop} {r : Sh → Int → D} (h : ∀ n i, q n i → FnO Try.prog g [.agg (rowS n), .lit (.int .i64 i)] (.ret (r n i))) (hb : ∀ n i, D.bel 0 (r n i) = true) : ∀ xs p d, shIT q r xs = some (p, d) → p → FnO Try.prog g xs (.ret d) ∧ D.belL 0 xs = true ∧ D.bel 0 d = true :=
  ctr_ok fun p hp => ⟨h p.1 p.2 hp, by simp, hb p.1 p.2⟩
noncomputable def sh2T (q : Sh → Sh → Prop) (r : Sh → Sh → D) : List D → Option (Prop × D) := ctr (fun p : Sh × Sh => [.agg (rowS p.1), .agg (rowS p.2)]) (fun p => q p.1 p.2) (fun p => r p.1 p.2)
theorem sh2T_eq (q : Sh → Sh → Prop) (r : Sh → Sh → D) (n m : Sh) : sh2T q r [.agg (rowS n), .agg (rowS m)] = some (q n m, r n m) := ctr_enc (fun a b h => by simp at h; exact Prod.ext (rowS_inj _ _ h.1) (rowS_inj _ _ h.2)) (n, m)
theorem sh2T_ok {g : FuncId} {q : Sh → Sh → Prop} {r : Sh → Sh → D} (h : ∀ n m, q n m → FnO Try.prog g [.agg (rowS n), .agg (rowS m)] (.ret (r n m))) (hb : ∀ n m, D.bel 0 (r n m) = true) : ∀ xs p d, sh2T q r xs = some (p, d) → p → FnO Try.prog g xs (.ret d) ∧ D.belL 0 xs = true ∧ D.bel 0 d = true :=
  ctr_ok fun p hp => ⟨h p.1 p.2 hp, by simp, hb p.1 p.2⟩

def goodS (s : Sh) : Bool := decide (sz s ≤ 512) && rightS s
def limP (s : Sh) : Prop := limS s = true ∧ sz s ≤ 1000000
def tbool (f : Sh → Bool) (n : Sh) : D := .lit (.bool (f n))
def fewS (s : Sh) : Bool := decide (sz s ≤ 512)
theorem few_ok' (n : Sh) (h : limP n) : FnO Try.prog 65 [.agg (rowS n)] (.ret (tbool fewS n)) := few_ok n h.2
theorem right_ok' (n : Sh) (h : limP n) : FnO Try.prog 66 [.agg (rowS n)] (.ret (tbool rightS n)) := right_ok n h.1 h.2
theorem tbool_bel (f : Sh → Bool) (n : Sh) : D.bel 0 (tbool f n) = true := by simp [tbool]

set_option maxRecDepth 10000 in
theorem good_ok (s : Sh) (h : limP s) : FnO Try.prog 39 [.agg (rowS s)] (.ret (tbool goodS s)) := by
  have ht := tbC_ok (shT_ok few_ok' (tbool_bel _)) (tbC_ok (shT_ok right_ok' (tbool_bel _)) (tb0_ok _))
  refine fnO_wp ht fol Try.func39 rfl (by kernel_rfl) (by simp [Try.ntmps39]) (by kernel_rfl) fun I => ?_
  cases hF : fewS s with
  | true =>
    simp -implicitDefEqProofs [Try.ntmps39, shT_eq, tbool, hF, h]
    exact seals_bool (by simp only [goodS]; simp only [fewS] at hF; simp [hF])
  | false =>
    simp -implicitDefEqProofs [Try.ntmps39, shT_eq, tbool, hF, h]
    exact seals_bool (by simp only [goodS]; simp only [fewS] at hF; simp [hF])

def textG (s : Sh) : ByteArray := if goodS s then txt s else ⟨#[]⟩
theorem textP_ok (n : Sh) (h : limP n ∧ rightS n = true) : FnO Try.prog 46 [.agg (rowS n)] (.ret (.lit (.string (txt n)))) := text_ok n (right_okT n h.1.1 h.2) h.1.2

set_option maxRecDepth 10000 in
theorem textT_ok (s : Sh) (h : limP s) : FnO Try.prog 54 [.agg (rowS s)] (.ret (.lit (.string (textG s)))) := by
  have ht := tbC_ok (shT_ok good_ok (tbool_bel _)) (tbC_ok (shT_ok (r := fun n => .lit (.string (txt n))) textP_ok (by simp)) (tb0_ok _))
  refine fnO_wp ht fol Try.func54 rfl (by kernel_rfl) (by simp [Try.ntmps54]) (by kernel_rfl) fun I => ?_
  cases hG : goodS s with
  | true =>
    have hR : rightS s = true := by simp only [goodS, Bool.and_eq_true] at hG; exact hG.2
    simp -implicitDefEqProofs [Try.ntmps54, shT_eq, tbool, hG, h, hR]
    simp only [textG, hG, if_true]
    exact .same _ (by simp)
  | false =>
    simp -implicitDefEqProofs [Try.ntmps54, shT_eq, tbool, hG, h]
    simp only [textG, hG]
    exact .same _ (by simp)
end Go.Proofs.Ythlebppdhipanaa

/-
  What the engine reckons, as a contract.
-/
import Derived.Test.YthlebppdhipanaaSyR
import Derived.Test.YthlebppdhipanaaEvc
set_option linter.all false
namespace Go.Ev
open Go.Aw

/-- Is what is told a letter? -/
def isLit (v : Value) : Option (D × H) → Bool
  | some (d, _) => dEqb d (.lit v)
  | none => false

theorem fnO_of_eng {P : Program} {cf : CF} (hcf : SF P cf) {g : FuncId} (hen : enters P g = true) {args : List D} {v : Value} (hc : isLit v (cf g args { hp := .e, nx := 0 }) = true) : FnO P g args (.ret (.lit v)) := by
  refine .inl ⟨hen, fun fz w vs hi hvs => ?_⟩
  unfold isLit at hc
  split at hc
  case h_2 => cases hc
  rename_i d h hcall
  have hd := dEqb_eq _ _ hc
  subst hd
  rcases hcf _ _ _ _ _ hcall with ⟨_, h1⟩ | ⟨h1, _⟩
  · refine (h1 (Mem.none fz) w vs ⟨hi, fun _ _ e => (by simp [T.get] at e), rfl⟩ hvs).mono ?_
    rintro x w' ⟨v', M', rfl, g1, g2, g3⟩
    refine ⟨M'.fz, ?_, inv_none g1.inv, ?_⟩
    · cases g2 with
      | lit _ hv => exact ⟨_, rfl, .lit _ hv⟩
    · have := g3.w
      exact ⟨this.os, this.tape, this.output, this.size, this.keep, fun l b c e => (by cases e), this.fz, this.fznew⟩
  · rw [hen] at h1; cases h1
end Go.Ev

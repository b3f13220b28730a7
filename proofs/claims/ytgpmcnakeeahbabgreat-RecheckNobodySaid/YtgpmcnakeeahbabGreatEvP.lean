/-
  From the engine to a row: calls that are reckoned by the kernel.
-/
import Derived.Test.YtgpmcnakeeahbabGreatEvU
import Derived.ChangeSame
import Derived.RowKit
namespace Go.Ev

/-- Memory in which nothing is the call's own. -/
def Mem.none (fz : Nat → Option (Array Value)) : Mem := { μ := fun _ => .dead, nx := 0, fz := fz }

theorem keptBut_of_ext {W W' : World} {M' : Mem} {fz : Nat → Option (Array Value)} (h : Ext (Mem.none fz) W M' W') (may : MemPlace → Prop) : W.keptBut W' may := by
  refine ⟨h.os, h.output, fun i hi => ?_⟩
  rw [h.keep i hi (fun _ _ e => by cases e)]
  cases hw : W.heap[i]? with
  | none => exact rfl
  | some o =>
    cases o with
    | cells c t fr => exact ⟨rfl, rfl, rfl, fun _ _ => rfl⟩
    | map es clock => exact .inr ⟨rfl, rfl⟩
    | _ => exact rfl

/-- A call of which the engine tells 'true'. -/
theorem calls_true {P : Program} {ex : CF} (hex : SX P ex) {N n : Nat} {g : FuncId} {args : List D} (hen : Aw.enters P g = true)
    (ht : (match (eng P ex (drawE P) N n).1 g args { hp := .e, nx := 0 } with | some (.lit (.bool b), _) => b | _ => false) = true)
    {W : World} {vs : Array Value} (hv : argsOk (Mem.none fun _ => Option.none) args vs) : Calls P g vs W fun e W' => e = .returned (.bool true) ∧ ∀ may, W.keptBut W' may := by
  split at ht
  · rename_i b h' he
    subst ht
    rcases eng_sound hex N n _ _ _ _ _ he with ⟨_, h⟩ | ⟨h, _⟩
    · refine (h _ W vs ⟨⟨fun _ _ _ _ _ e => (by cases e), fun _ _ _ e => (by cases e), fun _ _ _ e => (by cases e), fun _ _ e => (by cases e), fun _ _ e => (by cases e)⟩, fun _ _ e => (by simp [T.get] at e), rfl⟩ hv).mono ?_
      rintro e W' ⟨v, M', rfl, _, h2, h3⟩
      cases h2
      exact ⟨rfl, fun may => keptBut_of_ext h3 may⟩
    · rw [hen] at h; cases h
  · cases ht
end Go.Ev

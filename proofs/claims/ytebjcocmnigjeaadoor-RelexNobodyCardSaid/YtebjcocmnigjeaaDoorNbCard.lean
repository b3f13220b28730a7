/-
  RelexNobody: its card.
-/
import Derived.Test.YtebjcocmnigjeaaDoorNb
import Derived.Test.YtebjcocmnigjeaaDoorCards
namespace Go.Proofs.YtebjcocmnigjeaaDoor
open Go

theorem relexNobody_card_holds : Rows.RelexNobodyCardSaid :=
  Claim7.holds_tied_plain_at .later [] [.data, .pinned] true (true, "66fe5308ec24dfea7734cdc89b9f6ae837ce55157274e063c644e5f54755e44e") false
    x_holds (fun _ h => by cases h) (by kernel_rfl) (fun _ h => by cases h) relexNobody_row_tie rfl ⟨rfl, rfl⟩ (by kernel_rfl) rfl
    (fun f fn hf hfn => by
      obtain rfl : f = 4 := Option.some.inj ((show Tryd.prog.funcNamed "variorum/variorumlaw24.RelexNobody" = some 4 by kernel_rfl).symm.trans hf) |>.symm
      obtain rfl : fn = Tryd.f4 := (Option.some.inj (Tryd.func4.symm.trans hfn)).symm
      exact ⟨by kernel_rfl, fun j t ht => by
        rw [Tryd.params4] at ht
        have h3 : t = 3 := by
          rcases j with _ | j
          · simpa using ht.symm
          · simp at ht
        subst h3
        exact (show Tryd.prog.wantsStandIn 3 = false by kernel_rfl)⟩)
    (by kernel_rfl)
#print axioms relexNobody_card_holds
end Go.Proofs.YtebjcocmnigjeaaDoor

/-
  What fits what: the walk.
-/
import Derived.Test.YthlebppdhipanaaShSx
set_option linter.all false
namespace Go.Proofs.Ythlebppdhipanaa
open Go.Ev
open Go.Aw (tiOf fieldsOf sB)

noncomputable def fiT (N : Nat) (q : Sh → Sh → Prop) : List D → Option (Prop × D) := sh2T q (fun a b => .lit (.bool (fitsN N a b)))

/-- What is known below. -/
def FitsOk (N : Nat) : Prop := ∀ a b, rightS a = true → rightS b = true → limP a → limP b → sz a + sz b ≤ N → FnO Try.prog 40 [.agg (rowS a), .agg (rowS b)] (.ret (.lit (.bool (fitsN N a b))))

theorem lim_len {s : Sh} (h : limP s) : s.kids.length ≤ 1000 ∧ s.names.length ≤ 1000 ∧ ∀ n ∈ s.names, n.size ≤ 1000 := by
  obtain ⟨k, ns, l⟩ := s
  have h1 := h.1
  simp only [limS, Bool.and_eq_true, decide_eq_true_eq, List.all_eq_true] at h1
  exact ⟨h1.2.2.1, h1.1, h1.2.1⟩
noncomputable def coT (gs : FuncId) (caps : List D) (q : Sh → Prop) (f : Sh → Bool) : List D → Option (Prop × D) := ctr (fun l : List Sh => [.sq false 3 (rowsS l), .fn (.func gs) [] caps]) (fun l => l.length ≤ 1000000 ∧ ∀ n ∈ l, q n) (fun l => .lit (.bool (l.any f)))
@[simp] theorem wp_label_eq {md : Bool} {P : Program} {rl : Option Nat} {I : Gh} {tb : Tb} {l : Nat} {Q : X → S → Prop} {s : S} : WP md P rl I tb (.label l) Q s = Q .normal s := rfl
def FFs : S := S.mk 72 [(4, .lit (.bool false)), (7, .pt 0 0)] [(0, .cells 4 none [.lit (.bool true)]), (1, .dfr)] 2 [1] none []
def okP (N : Nat) (p : Pr) : Bool := !p.lack && fitsN N p.a p.b
def FFk (N : Nat) (l : List Pr) (k : Nat) : S := if (l.take k).all (okP N) = true then FFs else badS 72

end Go.Proofs.Ythlebppdhipanaa

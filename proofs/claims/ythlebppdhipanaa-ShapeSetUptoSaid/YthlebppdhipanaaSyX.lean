/-
  Lengths of slices within structs.
-/
import Derived.Test.YthlebppdhipanaaSyV
set_option linter.all false
namespace Go.Ev
open Go.Aw (WF)

theorem sq_len {M : Mem} {f : Bool} {sz : Nat} {rows : List (List D)} {v : Value} (h : R M (.sq f sz rows) v) : rows.length ≤ 9223372036854775807 := by
  cases h with
  | sqn => simp
  | sq _ _ _ b off k c V hb hn hm hf hz h1 h2 => exact Nat.le_trans hn hm

theorem w_aggLen {P : Program} {rl : Option Nat} {I : Gh} {Q : X → S → Prop} {s : S} {c : Code} (t j : Nat) {ds : List D} {f : Bool} {sz : Nat} {rows : List (List D)} (ht : lk s.tm t = some (.agg ds)) (hj : ds[j]? = some (.sq f sz rows)) (h : rows.length ≤ 9223372036854775807 → W P rl I c Q s) : W P rl I c Q s := by
  intro r M w a zs hrl hr hg
  refine h ?_ r M w a zs hrl hr hg
  have := hr.t t _ ht
  generalize a.tmps.getD t undef = v at this
  cases this with
  | agg l cs hs h1 h2 => exact sq_len (h2 j _ hj)
end Go.Ev
namespace Go.Ev
@[simp] theorem maxE_int {k k' : IntKind} {a b : Int} : maxE [.lit (.int k a), .lit (.int k' b)] = some (.lit (.int k (max a b))) := by
  simp only [maxE]
  congr 3
  by_cases h : b > a
  · simp [h]; omega
  · simp [h]; omega
@[simp] theorem minE_int {k k' : IntKind} {a b : Int} : minE [.lit (.int k a), .lit (.int k' b)] = some (.lit (.int k (min a b))) := by
  simp only [minE]
  congr 3
  by_cases h : b < a
  · simp [h]; omega
  · simp [h]; omega
theorem seals_int {hp : List (Nat × Blk)} {k : IntKind} {b c : Int} (h : b = c) : Seals hp (.lit (.int k b)) (.lit (.int k c)) := by
  subst h; exact .same _ (by simp)
end Go.Ev
namespace Go.Ev
@[simp] theorem ptrEq_litL {P : Program} {h : H} {op : BinOp} {t : TypeId} {v : Value} {y : D} : ptrEqE P h op t (.lit v) y = none := rfl
@[simp] theorem ptrEq_litR {P : Program} {h : H} {op : BinOp} {t : TypeId} {v : Value} {x : D} : ptrEqE P h op t x (.lit v) = none := by cases x <;> rfl
@[simp] theorem ptrEq_un {P : Program} {h : H} {op : BinOp} {t : TypeId} {y : D} : ptrEqE P h op t .un y = none := rfl
end Go.Ev
namespace Go.Ev
theorem condK_t {A B : Prop} : condK (.lit (.bool true)) A B = A := by simp [condK]
theorem condK_f {A B : Prop} : condK (.lit (.bool false)) A B = B := by simp [condK]
attribute [simp ↓ 2000] condK_t condK_f
end Go.Ev

/-
  Whole numbers compared.
-/
namespace Go.Ev
end Go.Ev

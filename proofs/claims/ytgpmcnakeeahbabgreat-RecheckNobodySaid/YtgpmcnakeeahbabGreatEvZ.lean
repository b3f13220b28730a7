/-
  Whether two data are told alike.
-/
import Derived.Test.YtgpmcnakeeahbabGreatEvI
import Derived.OrdersIn
namespace Go.Ev

mutual
def dEqb : D → D → Bool
  | .lit a, .lit b => vEqb a b
  | .agg l, .agg m => lEqb l m
  | .pt l o, .pt l' o' => decide (l = l') && decide (o = o')
  | .sl l o n c, .sl l' o' n' c' => decide (l = l') && (decide (o = o') && (decide (n = n') && decide (c = c')))
  | .yl l, .yl l' => decide (l = l')
  | .mp l, .mp l' => decide (l = l')
  | .ifc t d, .ifc t' d' => decide (t = t') && dEqb d d'
  | .tup l, .tup m => lEqb l m
  | .fn (.func g) a b, .fn (.func g') a' b' => decide (g = g') && (lEqb a a' && lEqb b b')
  | .em, .em => true
  | .un, .un => true
  | .one, .one => true
  | .any, .any => true
  | _, _ => false
def lEqb : List D → List D → Bool
  | [], [] => true
  | a :: l, b :: m => dEqb a b && lEqb l m
  | _, _ => false
end

mutual
theorem dEqb_eq : ∀ (a b : D), dEqb a b = true → a = b
  | .lit a, b, h => by
    cases b <;> simp only [dEqb, Bool.false_eq_true] at h
    rw [vEqb_eq h]
  | .agg l, b, h => by
    cases b <;> simp only [dEqb, Bool.false_eq_true] at h
    rw [lEqb_eq _ _ h]
  | .pt l o, b, h => by
    cases b <;> simp only [dEqb, Bool.false_eq_true, Bool.and_eq_true, decide_eq_true_eq] at h
    rw [h.1, h.2]
  | .sl l o n c, b, h => by
    cases b <;> simp only [dEqb, Bool.false_eq_true, Bool.and_eq_true, decide_eq_true_eq] at h
    rw [h.1, h.2.1, h.2.2.1, h.2.2.2]
  | .yl l, b, h => by
    cases b <;> simp only [dEqb, Bool.false_eq_true, decide_eq_true_eq] at h
    rw [h]
  | .mp l, b, h => by
    cases b <;> simp only [dEqb, Bool.false_eq_true, decide_eq_true_eq] at h
    rw [h]
  | .ifc t d, b, h => by
    cases b <;> simp only [dEqb, Bool.false_eq_true, Bool.and_eq_true, decide_eq_true_eq] at h
    rw [h.1, dEqb_eq _ _ h.2]
  | .tup l, b, h => by
    cases b <;> simp only [dEqb, Bool.false_eq_true] at h
    rw [lEqb_eq _ _ h]
  | .fn f a c, b, h => by
    cases f with
    | func g =>
      cases b <;> (try simp only [dEqb, Bool.false_eq_true] at h)
      rename_i f' a' c'
      cases f' with
      | func g' =>
        simp only [dEqb, Bool.and_eq_true, decide_eq_true_eq] at h
        rw [h.1, lEqb_eq _ _ h.2.1, lEqb_eq _ _ h.2.2]
      | _ => simp [dEqb] at h
    | _ => simp [dEqb] at h
  | .em, b, h => by cases b <;> simp only [dEqb, Bool.false_eq_true] at h; rfl
  | .un, b, h => by cases b <;> simp only [dEqb, Bool.false_eq_true] at h; rfl
  | .one, b, h => by cases b <;> simp only [dEqb, Bool.false_eq_true] at h; rfl
  | .any, b, h => by cases b <;> simp only [dEqb, Bool.false_eq_true] at h; rfl
theorem lEqb_eq : ∀ (a b : List D), lEqb a b = true → a = b
  | [], b, h => by cases b <;> simp only [lEqb, Bool.false_eq_true] at h; rfl
  | a :: l, b, h => by
    cases b <;> simp only [lEqb, Bool.false_eq_true, Bool.and_eq_true] at h
    rw [dEqb_eq _ _ h.1, lEqb_eq _ _ h.2]
end
end Go.Ev

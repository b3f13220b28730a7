/-
  Is a shape right?
-/
import Derived.Test.YthlebppdhipanaaShH
set_option linter.all false
namespace Go.Proofs.Ythlebppdhipanaa
open Go.Ev
open Go.Aw (tiOf fieldsOf sB)

def partedK (s : Sh) : Bool := decide (s.kind = 8) || decide (s.kind = 1)
mutual
def rightS : Sh → Bool
  | .mk k ns l => (decide (k = 6) || decide (ns.length = 0)) && (rightSs l && (if 1 ≤ k ∧ k ≤ 5 then decide (l.length = 0) else if k = 6 then (ns.all nameB && (decide (l.length = ns.length) && risingB ns)) else if k = 7 then decide (0 < l.length) else if k = 8 then decide (1 < l.length) && (!(l.any partedK) && risingB (l.map txt)) else false))
def rightSs : List Sh → Bool
  | [] => true
  | n :: r => rightS n && rightSs r
end
theorem rightSs_any : ∀ l : List Sh, rightSs l = !(l.any fun n => !rightS n)
  | [] => rfl
  | n :: r => by simp [rightSs, rightSs_any r]
mutual
def limS : Sh → Bool
  | .mk _ ns l => decide (ns.length ≤ 1000) && ((ns.all fun n => decide (n.size ≤ 1000)) && (decide (l.length ≤ 1000) && limSs l))
def limSs : List Sh → Bool
  | [] => true
  | n :: r => limS n && limSs r
end
theorem limSs_mem : ∀ {l : List Sh}, limSs l = true → ∀ x ∈ l, limS x = true
  | [], _, x, h => by simp at h
  | n :: r, h, x, hx => by
    simp only [limSs, Bool.and_eq_true] at h
    rcases List.mem_cons.1 hx with rfl | hx
    · exact h.1
    · exact limSs_mem h.2 x hx
mutual
theorem right_okT : ∀ s : Sh, limS s = true → rightS s = true → okT s = true
  | .mk k ns l, h1, h2 => by
    simp only [limS, Bool.and_eq_true, decide_eq_true_eq] at h1
    obtain ⟨a1, a2, a3, a4⟩ := h1
    simp only [rightS, Bool.and_eq_true, Bool.or_eq_true, decide_eq_true_eq] at h2
    obtain ⟨b1, b2, b3⟩ := h2
    have c := right_okTs l a4 b2
    simp only [okT, c, a1, a2, a3, decide_true, Bool.true_and]
    by_cases hk : 1 ≤ k ∧ k ≤ 5
    · simp [hk.1, hk.2]
    · rw [if_neg hk] at b3
      by_cases h6 : k = 6
      · subst h6
        simp only [if_true, Bool.and_eq_true, decide_eq_true_eq] at b3
        simp [b3.2.1]
      · by_cases h8 : k = 8
        · subst h8; simp
        · rw [if_neg h6, if_neg h8] at b3
          by_cases h7 : k = 7
          · subst h7
            simp at b3
            simp [b3]
          · simp [h7] at b3
theorem right_okTs : ∀ l : List Sh, limSs l = true → rightSs l = true → okTs l = true
  | [], _, _ => rfl
  | n :: r, h1, h2 => by
    simp only [limSs, rightSs, Bool.and_eq_true] at h1 h2
    simp [okTs, right_okT n h1.1 h2.1, right_okTs r h1.2 h2.2]
end

/-! ### The functions handed in -/
set_option maxRecDepth 10000 in
theorem right3_ok (n : Sh) : FnO Try.prog 99 [.agg (rowS n)] (.ret (.lit (.bool (partedK n)))) := by
  refine fnO_wp (tb0_ok _) fol Try.func99 rfl (by kernel_rfl) (by simp [Try.ntmps99]) (by kernel_rfl) fun I => ?_
  obtain ⟨k, ns, l⟩ := n
  simp -implicitDefEqProofs [Try.ntmps99, rowS]
  exact seals_bool (by show (decide (k = 8) || decide (k = 1)) = _; rw [Bool.eq_iff_iff]; simp)
set_option maxRecDepth 10000 in
theorem right2_ok (s : ByteArray) (hs : s.size ≤ 1000000) : FnO Try.prog 97 [.lit (.string s)] (.ret (.lit (.bool (!nameB s)))) := by
  have ht := tbC_ok (P := Try.prog) (sT_ok (q := fun s => s.size ≤ 1000000) name_ok) (tb0_ok _)
  refine fnO_wp ht fol Try.func97 rfl (by kernel_rfl) (by simp [Try.ntmps97]) (by kernel_rfl) fun I => ?_
  simp -implicitDefEqProofs [Try.ntmps97, sT_eq, hs]
  exact seals_bool rfl
noncomputable def riT (q : Sh → Prop) : List D → Option (Prop × D) := ctr (fun n : Sh => [.agg (rowS n)]) q (fun n => .lit (.bool (rightS n)))
theorem riT_eq (q : Sh → Prop) (n : Sh) : riT q [.agg (rowS n)] = some (q n, .lit (.bool (rightS n))) := ctr_enc (fun a b h => by simp at h; exact rowS_inj _ _ h) n
set_option maxRecDepth 10000 in
theorem right1_ok (q : Sh → Prop) (h66 : ∀ n, q n → FnO Try.prog 66 [.agg (rowS n)] (.ret (.lit (.bool (rightS n))))) (n : Sh) (hn : q n) : FnO Try.prog 95 [.agg (rowS n)] (.ret (.lit (.bool (!rightS n)))) := by
  have ht := tbC_ok (P := Try.prog) (g := 66) (f := riT q) (ctr_ok fun n hn => ⟨h66 n hn, by simp, by simp⟩) (tb0_ok _)
  refine fnO_wp ht fol Try.func95 rfl (by kernel_rfl) (by simp [Try.ntmps95]) (by kernel_rfl) fun I => ?_
  simp -implicitDefEqProofs [Try.ntmps95, riT_eq, hn]
  exact seals_bool rfl

def anyF (g : FuncId) (l : List Sh) : Bool := if g = 95 then l.any fun n => !rightS n else l.any partedK
noncomputable def anT (q : List Sh → Prop) : List D → Option (Prop × D) := ctr (fun p : List Sh × FuncId => [.sq false 3 (rowsS p.1), .fn (.func p.2) [] []]) (fun p => (p.2 = 95 ∨ p.2 = 99) ∧ q p.1) (fun p => .lit (.bool (anyF p.2 p.1)))
theorem anT_eq (q : List Sh → Prop) (l : List Sh) (g : FuncId) : anT q [.sq false 3 (rowsS l), .fn (.func g) [] []] = some ((g = 95 ∨ g = 99) ∧ q l, .lit (.bool (anyF g l))) := ctr_enc (fun a b h => by simp at h; exact Prod.ext (rowsS_inj _ _ h.1) h.2) (l, g)
noncomputable def asT : List D → Option (Prop × D) := ctr (fun l : List ByteArray => [.sq false 1 (strsD l), .fn (.func 97) [] []]) (fun l => l.length ≤ 1000000 ∧ ∀ s ∈ l, s.size ≤ 1000000) (fun l => .lit (.bool (l.any fun s => !nameB s)))
theorem asT_eq (l : List ByteArray) : asT [.sq false 1 (strsD l), .fn (.func 97) [] []] = some (l.length ≤ 1000000 ∧ ∀ s ∈ l, s.size ≤ 1000000, .lit (.bool (l.any fun s => !nameB s))) := ctr_enc (fun a b h => by simp at h; exact strsD_inj _ _ h) l
noncomputable def rsT : List D → Option (Prop × D) := ctr (fun l : List ByteArray => [.sq false 1 (strsD l)]) (fun l => l.length ≤ 1000000) (fun l => .lit (.bool (risingB l)))
theorem rsT_eq (l : List ByteArray) : rsT [.sq false 1 (strsD l)] = some (l.length ≤ 1000000, .lit (.bool (risingB l))) := ctr_enc (fun a b h => by simp at h; exact strsD_inj _ _ h) l

end Go.Proofs.Ythlebppdhipanaa

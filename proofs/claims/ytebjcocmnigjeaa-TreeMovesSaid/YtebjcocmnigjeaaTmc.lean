/-
  Is a tree light?
-/
import Derived.Test.YtebjcocmnigjeaaTmb
import Derived.Test.YtebjcocmnigjeaaSyS
namespace Go.Proofs.Ytebjcocmnigjeaa
open Go.Ev
open Go.Aw (tiOf fieldsOf)

def lightL (f : Nd → Int × Bool) : List Nd → Int → Int × Bool
  | [], many => (many, true)
  | x :: r, many => if (f x).2 = false ∨ 1500 < IntKind.i64.wrap (many + (f x).1) then (IntKind.i64.wrap (many + (f x).1), false) else lightL f r (IntKind.i64.wrap (many + (f x).1))
def lightN : Nat → Nd → Int × Bool
  | 0, _ => (1, false)
  | d + 1, .mk _ _ _ t l => if 200 < t.size ∨ 60 < l.length then (1, false) else lightL (lightN d) l 1

def encI (d : Nat) (n : Nd) : List D := [.agg (rowN n), .lit (.int .i64 (d : Int))]
theorem encI_inj (d : Nat) (x y : Nd) (h : encI d x = encI d y) : x = y := by
  simp [encI] at h
  exact rowN_inj _ _ h
noncomputable def liT (d : Nat) : List D → Option (Prop × D) := ctr (encI d) (fun _ => True) (fun n => .tup [.lit (.int .i64 (lightN d n).1), .lit (.bool (lightN d n).2)])
theorem liT_eq (d : Nat) (n : Nd) : liT d [.agg (rowN n), .lit (.int .i64 (d : Int))] = some (True, .tup [.lit (.int .i64 (lightN d n).1), .lit (.bool (lightN d n).2)]) :=
  ctr_enc (encI_inj d) n
theorem liT_260 (n : Nd) : liT 260 [.agg (rowN n), .lit (.int .i64 260)] = some (True, .tup [.lit (.int .i64 (lightN 260 n).1), .lit (.bool (lightN 260 n).2)]) := liT_eq 260 n

def liF (deep : Int) (l : List Nd) (i : Nat) (m : Int) : S :=
  S.mk 52 [(1, .lit (.int .i64 deep)), (6, .lit (.int .i64 m)), (27, .sq false 5 (rowsN l)), (28, .lit (.int .i64 l.length)), (29, .lit (.int .i64 i))] [] 0 [] none []

set_option maxHeartbeats 1000000 in
set_option maxRecDepth 10000 in
theorem light_ok : ∀ (d : Nat), d ≤ 1000 → ∀ n : Nd, FnO Try.prog 47 (encI d n) (.ret (.tup [.lit (.int .i64 (lightN d n).1), .lit (.bool (lightN d n).2)])) := by
  intro d
  induction d with
  | zero =>
    intro _ n
    have ht := tb0_ok Try.prog
    refine fnO_wp ht fol Try.func47 rfl (by kernel_rfl) (by simp [Try.ntmps47, encI]) (by kernel_rfl) fun I => ?_
    obtain ⟨k, a, b, t, l⟩ := n
    simp -implicitDefEqProofs [Try.ntmps47, encI, rowN]
    exact .same _ (by simp [lightN])
  | succ d ih =>
    intro hd n
    have ht := tbC_ok (P := Try.prog) (g := 47) (f := liT d) (ctr_ok fun p hp => ⟨ih (by omega) p, by simp [encI], by simp⟩) (tb0_ok _)
    refine fnO_wp ht fol Try.func47 rfl (by kernel_rfl) (by simp [Try.ntmps47, encI]) (by kernel_rfl) fun I => ?_
    obtain ⟨k, a, b, t, l⟩ := n
    have e1 : ¬ ((d : Int) + 1 = 0) := by omega
    have hw : IntKind.i64.wrap (d : Int) = (d : Int) := wrap64 (by omega) (by omega)
    simp -implicitDefEqProofs [Try.ntmps47, encI, rowN, e1]
    have hs : (Aw.sB t).length = t.size := by simp [Aw.sB]
    rw [hs]
    refine ⟨fun h => ?_, fun h1 h2 => ?_⟩
    · have h3 : 200 < t.size ∨ 60 < l.length := by omega
      simp only [lightN, if_pos h3]
      exact .same _ (by simp)
    · have h3 : ¬ (200 < t.size ∨ 60 < l.length) := by omega
      simp only [lightN, if_neg h3]
      refine w_loop (fun p : { p : Nat × Int // p.1 ≤ l.length ∧ lightL (lightN d) (l.drop p.1) p.2 = lightL (lightN d) l 1 } => liF ((d : Int) + 1) l p.1.1 p.1.2) (fun p => l.length - p.1.1) ⟨(0, 1), Nat.zero_le _, rfl⟩ (le_of [] (by simp [liF])) fun ⟨(i, many), hi, heq⟩ => wp_ok ht fol _ _ _ (by kernel_rfl) ?_
      simp only [] at hi heq
      have hw2 : IntKind.i64.wrap ((i : Int) + 1) = (i : Int) + 1 := wrap64 (by omega) (by omega)
      by_cases hil : i < l.length
      · rw [List.drop_eq_getElem_cons hil, lightL] at heq
        simp -implicitDefEqProofs [liF, hil, hw, hw2, liT_eq]
        refine ⟨fun h => ?_, fun h5 h6 => ⟨i + 1, IntKind.i64.wrap (many + (lightN d l[i]).1), le_of [] (by simp), ⟨by omega, ?_⟩, by omega⟩⟩
        · rw [if_pos h] at heq
          rw [← heq]
          exact .same _ (by simp)
        · rw [if_neg (by rw [h5]; simp; omega)] at heq
          exact heq
      · have : i = l.length := by omega
        subst this
        rw [List.drop_of_length_le (Nat.le_refl _), lightL] at heq
        simp -implicitDefEqProofs [liF]
        rw [← heq]
        exact .same _ (by simp)

set_option maxRecDepth 10000 in
theorem lightT_ok (n : Nd) : FnO Try.prog 10 [.agg (rowN n)] (.ret (.lit (.bool (lightN 260 n).2))) := by
  have ht := tbC_ok (P := Try.prog) (g := 47) (f := liT 260) (ctr_ok fun n _ => ⟨light_ok 260 (by omega) n, by simp [encI], by simp⟩) (tb0_ok _)
  refine fnO_wp ht fol Try.func10 rfl (by kernel_rfl) (by simp [Try.ntmps10]) (by kernel_rfl) fun I => ?_
  simp -implicitDefEqProofs [Try.ntmps10, liT_260]
  exact .same _ (by simp)

/-! ### What light trees are -/
mutual
def sizeN : Nd → Nat
  | .mk _ _ _ _ l => 1 + sizeL l
def sizeL : List Nd → Nat
  | [] => 0
  | n :: r => sizeN n + sizeL r
end

theorem lightL_true {d : Nat} (ih : ∀ n m, lightN d n = (m, true) → fewN n = true ∧ m = (sizeN n : Int) ∧ m ≤ 1500) : ∀ (l : List Nd) (many m : Int), 0 ≤ many → many ≤ 1500 → lightL (lightN d) l many = (m, true) → fewL l = true ∧ m = many + (sizeL l : Int) ∧ m ≤ 1500
  | [], many, m, h0, h1, h => by
    simp only [lightL, Prod.mk.injEq, and_true] at h
    subst h
    exact ⟨rfl, by simp [sizeL], h1⟩
  | x :: r, many, m, h0, h1, h => by
    rw [lightL] at h
    split at h
    · simp at h
    · rename_i hn
      have h2 : (lightN d x).2 = true := by
        cases hq : (lightN d x).2 with
        | true => rfl
        | false => exact absurd (Or.inl hq) hn
      obtain ⟨h3, h4, h5⟩ := ih x (lightN d x).1 (Prod.ext rfl h2)
      have hw : IntKind.i64.wrap (many + (lightN d x).1) = many + (lightN d x).1 := wrap64 (by omega) (by omega)
      have h6 : ¬ 1500 < many + (lightN d x).1 := fun q => hn (Or.inr (by rw [hw]; exact q))
      rw [hw] at h
      obtain ⟨h7, h8, h9⟩ := lightL_true ih r _ m (by omega) (by omega) h
      refine ⟨by simp [fewL, h3, h7], ?_, h9⟩
      simp only [sizeL]
      omega

theorem lightN_true : ∀ (d : Nat) (n : Nd) (m : Int), lightN d n = (m, true) → fewN n = true ∧ m = (sizeN n : Int) ∧ m ≤ 1500
  | 0, n, m, h => by simp [lightN] at h
  | d + 1, .mk k a b t l, m, h => by
    rw [lightN] at h
    split at h
    · simp at h
    · rename_i hn
      obtain ⟨h1, h2, h3⟩ := lightL_true (lightN_true d) l 1 m (by omega) (by omega) h
      refine ⟨?_, by simp only [sizeN]; omega, h3⟩
      simp only [fewN, h1, Bool.and_true, Bool.and_eq_true, decide_eq_true_eq]
      omega

mutual
theorem walkL_size : ∀ (n : Nd) (most : Int), (walkL n most).length ≤ sizeN n
  | .mk k a b t l, most => by
    rw [walkL, sizeN]
    have := walksL_size l (most - 1)
    split <;> simp <;> omega
theorem walksL_size : ∀ (l : List Nd) (most : Int), (walksL l most).length ≤ sizeL l
  | [], _ => by simp [walksL]
  | n :: r, most => by
    have := walkL_size n most
    have := walksL_size r most
    simp [walksL, sizeL]
    omega
end

theorem light_few (n : Nd) (h : (lightN 260 n).2 = true) : fewN n = true ∧ (walkL n 200).length ≤ 1000000 := by
  obtain ⟨h1, h2, h3⟩ := lightN_true 260 n _ (Prod.ext rfl h)
  have := walkL_size n 200
  exact ⟨h1, by omega⟩
end Go.Proofs.Ytebjcocmnigjeaa

/-
  The chapter's example.
-/
namespace Go.Proofs.Ytebjcocmnigjeaa
open Go.Ev
open Go.Aw (tiOf fieldsOf)

def exL : List (FuncId × XK) := [(169, .indexByte)]

theorem ex_ok : ∀ p ∈ exL, ExtOk Try.prog p.1 p.2 := by
  intro p hp
  simp only [exL, List.mem_cons, List.not_mem_nil, or_false] at hp
  subst hp
  exact ⟨Try.f169, Try.func169, by kernel_rfl, by kernel_rfl, by kernel_rfl, by kernel_rfl⟩

theorem lives_ok : FnO Try.prog 11 [] (.ret (.lit (.bool true))) :=
  fnO_of_eng (eng_sound (exT_ok exL ex_ok) 1000 60) (by kernel_rfl) (by kernel_rfl)
end Go.Proofs.Ytebjcocmnigjeaa

/-
  The law: the tables, what is so of trees changed.
-/
namespace Go.Proofs.Ytebjcocmnigjeaa
open Go.Ev
open Go.Aw (tiOf fieldsOf)

/-! ### Trees changed -/
mutual
theorem fewN_chg (sp : Int → Int → Int × Int) : ∀ (n : Nd) (m : Nat), fewN n = true → fewN (chg sp m n) = true
  | .mk k a b t l, 0, h => by
    simp only [fewN, Bool.and_eq_true, decide_eq_true_eq] at h
    simp [chg, fewN, fewL, h.1]
  | .mk k a b t l, m + 1, h => by
    simp only [fewN, Bool.and_eq_true, decide_eq_true_eq] at h
    simp [chg, fewN, h.1, h.2.1, fewL_chg sp l m h.2.2]
theorem fewL_chg (sp : Int → Int → Int × Int) : ∀ (l : List Nd) (m : Nat), fewL l = true → fewL (l.map (chg sp m)) = true
  | [], _, _ => rfl
  | n :: r, m, h => by
    simp only [fewL, Bool.and_eq_true] at h
    simp [fewL, fewN_chg sp n m h.1, fewL_chg sp r m h.2]
end

theorem hdN_refl (sp : Bool) (n : Nd) : hdN sp n n = true := by
  cases n
  simp [hdN]
theorem zip_self_all (f : Nd → Nd → Bool) (l : List Nd) (h : ∀ x ∈ l, f x x = true) : ((l.zip l).all fun p => f p.1 p.2) = true :=
  (zipAll f l l).mpr fun i h1 _ => h _ (List.getElem_mem h1)
theorem eqN_refl (sp : Bool) : ∀ (m : Nat) (n : Nd), eqN sp m n n = true
  | 0, n => hdN_refl sp n
  | m + 1, n => by
    simp only [eqN, hdN_refl, Bool.true_and, decide_true]
    exact zip_self_all _ _ fun x _ => eqN_refl sp m x

theorem chg_chg (sp sp' : Int → Int → Int × Int) : ∀ (m : Nat) (n : Nd), chg sp' m (chg sp m n) = chg (fun a b => sp' (sp a b).1 (sp a b).2) m n
  | 0, .mk k a b t l => rfl
  | m + 1, .mk k a b t l => by
    simp only [chg, List.map_map, Nd.mk.injEq, true_and]
    exact List.map_congr_left fun x _ => chg_chg sp sp' m x

theorem wrap_back (a b : Int) : IntKind.i64.wrap (IntKind.i64.wrap (a + b) + IntKind.i64.wrap (-b)) = IntKind.i64.wrap (a + 0) := by
  have e : ∀ x, IntKind.i64.wrap x = if x % 18446744073709551616 ≥ 9223372036854775808 then x % 18446744073709551616 - 18446744073709551616 else x % 18446744073709551616 := fun x => by
    simp [IntKind.wrap, show (2 : Int) ^ IntKind.i64.bits = 18446744073709551616 from rfl, show (2 : Int) ^ (IntKind.i64.bits - 1) = 9223372036854775808 from rfl, show IntKind.i64.signed = true from rfl]
  have : ∃ k, IntKind.i64.wrap (a + b) = a + b + k * 18446744073709551616 := by
    rw [e]
    split
    · exact ⟨-((a + b) / 18446744073709551616) - 1, by omega⟩
    · exact ⟨-((a + b) / 18446744073709551616), by omega⟩
  have h2 : ∃ k, IntKind.i64.wrap (-b) = -b + k * 18446744073709551616 := by
    rw [e]
    split
    · exact ⟨-((-b) / 18446744073709551616) - 1, by omega⟩
    · exact ⟨-((-b) / 18446744073709551616), by omega⟩
  obtain ⟨k, hk⟩ := this
  obtain ⟨j, hj⟩ := h2
  rw [hk, hj, e, e]
  have : (a + b + k * 18446744073709551616 + (-b + j * 18446744073709551616)) % 18446744073709551616 = (a + 0) % 18446744073709551616 := by omega
  rw [this]

theorem move_back (b : Int) (m : Nat) (n : Nd) : chg (spMove (IntKind.i64.wrap (-b))) m (chg (spMove b) m n) = chg (spMove 0) m n := by
  rw [chg_chg]
  congr 1
  funext x y
  simp only [spMove, wrap_back]

theorem same_chg (sp : Int → Int → Int × Int) : ∀ (m : Nat) (n : Nd), eqN false m (chg sp m n) n = true
  | 0, .mk k a b t l => by simp [eqN, chg, hdN]
  | m + 1, .mk k a b t l => by
    rw [chg, eqN_succ]
    simp only [hdN, allZ, decide_true, Bool.true_and, Bool.not_false, Bool.true_or, List.length_map]
    refine (zipAll _ _ _).mpr fun i h1 h2 => ?_
    simp only [List.getElem_map]
    exact same_chg sp m _

/-! ### The calls -/
noncomputable def tLi : List D → Option (Prop × D) := ctr (fun n : Nd => [.agg (rowN n)]) (fun _ => True) (fun n => .lit (.bool (lightN 260 n).2))
theorem tLi_eq (n : Nd) : tLi [.agg (rowN n)] = some (True, .lit (.bool (lightN 260 n).2)) := ctr_enc (fun a b h => by simp at h; exact rowN_inj _ _ h) n
noncomputable def tMv : List D → Option (Prop × D) := ctr (fun p : Nd × Int => [.agg (rowN p.1), .lit (.int .i64 p.2)]) (fun p => fewN p.1 = true) (fun p => .agg (rowN (chg (spMove p.2) 199 p.1)))
theorem tMv_eq (n : Nd) (b : Int) : tMv [.agg (rowN n), .lit (.int .i64 b)] = some (fewN n = true, .agg (rowN (chg (spMove b) 199 n))) := ctr_enc (fun a b h => by simp at h; exact Prod.ext (rowN_inj _ _ h.1) h.2) (n, b)
noncomputable def tBa : List D → Option (Prop × D) := ctr (fun n : Nd => [.agg (rowN n)]) (fun n => fewN n = true) (fun n => .agg (rowN (chg spBare 199 n)))
theorem tBa_eq (n : Nd) : tBa [.agg (rowN n)] = some (fewN n = true, .agg (rowN (chg spBare 199 n))) := ctr_enc (fun a b h => by simp at h; exact rowN_inj _ _ h) n
noncomputable def tEq (sp : Bool) : List D → Option (Prop × D) := ctr (encX []) (fun p => fewN p.1 = true ∧ fewN p.2 = true) (fun p => .lit (.bool (eqN sp 199 p.1 p.2)))
theorem tEq_eq (sp : Bool) (x y : Nd) : tEq sp [.agg (rowN x), .agg (rowN y)] = some (fewN x = true ∧ fewN y = true, .lit (.bool (eqN sp 199 x y))) := ctr_enc (encX_inj []) (x, y)
noncomputable def tWa : List D → Option (Prop × D) := ctr (fun n : Nd => [.agg (rowN n)]) (fun n => fewN n = true ∧ (walkL n 200).length ≤ 1000000) (fun n => .sq false 5 (rowsN (walkL n 200)))
theorem tWa_eq (n : Nd) : tWa [.agg (rowN n)] = some (fewN n = true ∧ (walkL n 200).length ≤ 1000000, .sq false 5 (rowsN (walkL n 200))) := ctr_enc (fun a b h => by simp at h; exact rowN_inj _ _ h) n
noncomputable def tLv : List D → Option (Prop × D) := ctr (fun _ : Unit => []) (fun _ => True) (fun _ => .lit (.bool true))
theorem tLv_eq : tLv [] = some (True, .lit (.bool true)) := ctr_enc (fun _ _ _ => rfl) ()

noncomputable def tbL := tbC 10 tLi (tbC 11 tLv (tbC 12 tMv (tbC 14 tMv (tbC 15 tBa (tbC 16 tBa (tbC 13 (tEq true) (tbC 17 (tEq false) (tbC 18 tWa (tbC 19 tWa tb0)))))))))
theorem tbL_ok : TbOk Try.prog tbL := by
  refine tbC_ok (ctr_ok fun n _ => ⟨lightT_ok n, by simp, by simp⟩) ?_
  refine tbC_ok (ctr_ok fun _ _ => ⟨lives_ok, by simp, by simp⟩) ?_
  refine tbC_ok (ctr_ok fun p hp => ⟨move_ok p.1 hp p.2, by simp, by simp⟩) ?_
  refine tbC_ok (ctr_ok fun p hp => ⟨refMove_ok p.1 hp p.2, by simp, by simp⟩) ?_
  refine tbC_ok (ctr_ok fun n hn => ⟨bare_ok n hn, by simp, by simp⟩) ?_
  refine tbC_ok (ctr_ok fun n hn => ⟨refBare_ok n hn, by simp, by simp⟩) ?_
  refine tbC_ok (ctr_ok fun p hp => ⟨equalT_ok p.1 p.2 hp.1 hp.2, by simp [encX], by simp⟩) ?_
  refine tbC_ok (ctr_ok fun p hp => ⟨sameT_ok p.1 p.2 hp.1 hp.2, by simp [encX], by simp⟩) ?_
  refine tbC_ok (ctr_ok fun n hn => ⟨walkT_ok n hn.2, by simp, by simp⟩) ?_
  exact tbC_ok (ctr_ok fun n hn => ⟨refWalkT_ok n hn.1 hn.2, by simp, by simp⟩) (tb0_ok _)

theorem rowN_12t : ∀ n : Nd, (rowN n).tail.take 2 = [.lit (.int .i64 n.from), .lit (.int .i64 n.to)] | .mk k a b t l => by simp [rowN, Nd.from, Nd.to]

def lwF (l : List Nd) (i : Nat) : S :=
  S.mk 123 [(6, .sq false 5 (rowsN l)), (7, .sq false 5 (rowsN l)), (65, .lit (.int .i64 l.length)), (66, .lit (.int .i64 i))] [] 0 [] none []

set_option maxHeartbeats 2000000 in
set_option maxRecDepth 20000 in
theorem law_ok (n : Nd) (by_ : Int) : FnO Try.prog 3 [.agg (rowN n), .lit (.int .i64 by_)] (.ret (.lit (.bool true))) := by
  have ht := tbL_ok
  unfold tbL at ht
  refine fnO_wp ht fol Try.func3 rfl (by kernel_rfl) (by simp [Try.ntmps3]) (by kernel_rfl) fun I => ?_
  cases hL : (lightN 260 n).2 with
  | false =>
    simp -implicitDefEqProofs [Try.ntmps3, tLi_eq, tLv_eq, hL]
    exact .same _ (by simp)
  | true =>
    obtain ⟨hf, hl⟩ := light_few n hL
    have hf1 := fewN_chg (spMove by_) n 199 hf
    have p1 := eqN_refl true 199 (chg (spMove by_) 199 n)
    have p2 := eqN_refl true 199 (chg (spMove 0) 199 n)
    rw [← move_back by_] at p2
    have p3 := eqN_refl true 199 (chg spBare 199 n)
    have p4 := same_chg (fun a b => spBare (spMove by_ a b).1 (spMove by_ a b).2) 199 n
    rw [← chg_chg] at p4
    have hf2 := fewN_chg (spMove 0) n 199 hf
    have hf3 := fewN_chg spBare n 199 hf
    have hf4 := fewN_chg (spMove (IntKind.i64.wrap (-by_))) _ 199 hf1
    have hf5 := fewN_chg spBare _ 199 hf1
    rw [move_back] at p2
    simp -implicitDefEqProofs [Try.ntmps3, tLi_eq, tLv_eq, tMv_eq, tBa_eq, tEq_eq, tWa_eq, hL, hf, hl, hf1, hf2, hf3, hf5, p1, p2, p3, p4, move_back]
    refine ⟨fun _ => .same _ (by simp), fun _ _ => ?_⟩
    generalize walkL n 200 = l at *
    refine w_loop (fun i : { i : Nat // i ≤ l.length } => lwF l i.1) (fun i => l.length - i.1) ⟨0, Nat.zero_le _⟩ (le_of [] (by simp [lwF])) fun ⟨i, hi⟩ => wp_ok ht fol _ _ _ (by kernel_rfl) ?_
    have hw2 : IntKind.i64.wrap ((i : Int) + 1) = (i : Int) + 1 := wrap64 (by omega) (by omega)
    by_cases hil : i < l.length
    · simp -implicitDefEqProofs [lwF, hil, hw2, rowN_12t]
      exact ⟨i + 1, le_of [] (by simp), by omega, by omega⟩
    · have : i = l.length := by omega
      subst this
      simp -implicitDefEqProofs [lwF, tLv_eq]
      exact .same _ (by simp)
end Go.Proofs.Ytebjcocmnigjeaa
